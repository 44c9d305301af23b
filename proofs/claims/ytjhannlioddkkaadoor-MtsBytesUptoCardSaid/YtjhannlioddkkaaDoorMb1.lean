
/- Records: Decode. Records: what Decode keeps while it reads. make([]byte, n), and copy onto it. Conditions: none. Signatures as bytes: the program's Read. Conditions: none. Records: Decode. The reference's reader: Fail, Take. The reference's reader: Uint. Plain laws: bytes that are read without an error are those that are written. Conditions: none. Records: what the reference's Decode keeps while it reads; the reader's End. Signatures as bytes: what the reference's Read keeps while it reads; its Take. Conditions: none. Signatures as bytes: the walk of the program's Read. Conditions: none. Signatures as bytes: the walk of the reference's Read. Conditions: none. Records: Same, of two of one content. -/
import Derived.Test.YtjhannlioddkkaaDoorRec3
import Derived.Test.YtjhannlioddkkaaDoorReaderB
import Derived.Test.YtjhannlioddkkaaDoorRecP
import Derived.Deep.RegionLaw
import Derived.Laws.ResultCell
import Derived.Test.YtjhannlioddkkaaDoorOwnT
import Derived.Deep.OwnRows
import Derived.Laws.OwnMore
import Derived.Laws.CopyOwn
import Derived.Test.YtjhannlioddkkaaDoorSig1
import Derived.Test.YtjhannlioddkkaaDoorMtsCan
import Derived.Test.YtjhannlioddkkaaDoorDigits
import Derived.Test.YtjhannlioddkkaaDoorWotsP
import Derived.Test.YtjhannlioddkkaaDoorSlc
import Derived.Deep.RegionHeld3
import Derived.Deep.Cut
import Derived.Test.YtjhannlioddkkaaDoorReaderU
import Derived.Test.YtjhannlioddkkaaDoorRecM
import Derived.Test.YtjhannlioddkkaaDoorClone
import Derived.BigQuiet
import Derived.Deep.QuietTactic
namespace Go.Proofs.YtjhannlioddkkaaDoor
open Go.RowKit
set_option linter.unusedVariables false

theorem Rd.below {w w' : World} {g : Nat} {bs : List Int} {e : Int} (hr : Rd w g bs e) (hb : Below w.heap.size w w') : Rd w' g bs e := by
  obtain ⟨x, h1, h2⟩ := hr
  exact ⟨x, h1.belowS hb, h2.below hb (Nat.le_refl _)⟩
theorem Rd.sl {w w' : World} {g : Nat} {bs : List Int} {e : Int} (hr : Rd w g bs e) (hg : w.grownBy w' (some g)) {u : Value} {zs : List Int} (hu : Sl w u (zs.map (Value.int .u8))) : Sl w' u (zs.map (Value.int .u8)) := by
  obtain ⟨x, h1, h2⟩ := hr
  exact hu.keepG h1 (rd_noB x h2.val e) hg
theorem OSls.keepRd {w w' : World} {base : Nat} {v : Value} {pss : List (List Int)} (h : OSls w base v pss) {g : Nat} {bs : List Int} {e : Int} (hr : Rd w g bs e) (hg : w.grownBy w' (some g)) : OSls w' base v pss := by
  obtain ⟨x, k, hx⟩ := hr
  obtain ⟨vs, h1, h2⟩ := h
  have hn : v.ownBlock ≠ some g := own_blk_ne h1.1 k (by decide)
  refine ⟨vs, ⟨h1.1.kept hg (.inr hn), fun g' hg' => ?_⟩, ?_⟩
  · obtain ⟨cur, hc1, hc2⟩ := h1.2 g' hg'
    exact ⟨cur, (hg.block g' (h1.1.lt g' hg').2 (fun e => hn (by rw [hg', e]))).trans hc1, hc2⟩
  · have key : ∀ {us : List Value} {ps : List (List Int)}, SlAll w us ps → SlAll w' us ps := by
      intro us
      induction us with
      | nil => intro ps h; cases ps with
        | nil => trivial
        | cons _ _ => exact h.elim
      | cons u us ih => intro ps h; cases ps with
        | nil => exact h.elim
        | cons p ps => exact ⟨h.1.keepG k (rd_noB x hx.val e) hg, ih h.2⟩
    exact key h2
theorem Rd.keepT {w w' : World} {base : Nat} {v : Value} {pss : List (List Int)} (hO : OSls w base v pss) {g : Nat} {bs : List Int} {e : Int} (hr : Rd w g bs e) (hg : w.grownBy w' v.ownBlock) : Rd w' g bs e := by
  obtain ⟨vs, h1, h2⟩ := hO
  obtain ⟨x, k, hx⟩ := hr
  exact ⟨x, k.grown hg (fun e => own_blk_ne h1.1 k (by decide) e.symm), hx.keepK h1 hg⟩
theorem Blk.keepO {w w' : World} {base g : Nat} {t : TypeId} {cs : Array Value} {v : Value} {pss : List (List Int)} (h : Blk w g t cs) (hO : OSls w base v pss) (hg : w.grownBy w' v.ownBlock) (hne : 25 ≠ t) : Blk w' g t cs := by
  obtain ⟨vs, h1, _⟩ := hO
  exact h.grown hg (fun e => own_blk_ne h1.1 h hne e.symm)

def endI (er : Int) (rest : List Int) : Int := if er = 0 then (if rest = [] then 0 else 5) else er
theorem crend_any (g : Nat) (bs : List Int) (er : Int) (w : World) (h : Rd w g bs er) :
    Calls Tryd.prog 98 #[.pointer (some ⟨g, 0, none⟩)] w fun e w' => e = .returned (.int .i64 (endI er bs)) ∧ w = w' := by
  have HE := Lib.hid (crerr_any g bs er w h)
  have HL := Lib.hid (crleft_any g bs er w h)
  clear h
  by_cases he : er = 0
  · by_cases hb : bs = []
    · have HD := Lib.hid (show endI er bs = er by unfold endI; rw [if_pos he, if_pos hb, he])
      have hI : ((bs.length : Int) == 0) = true := by simp [hb]
      have hn : (er != 0) = false := by simp [he]
      clear hb he
      go_enter Tryd.func98, Tryd.ntmps98
      go_wp2_with fail
      refine HE.out.mono ?_
      rintro e w1 ⟨rfl, rfl⟩
      go_wp2_with fail
      refine HL.out.mono ?_
      rintro e w1 ⟨rfl, rfl⟩
      go_wp2
      go_ret
      exact ⟨ret_int HD.out.symm, rfl⟩
    · have HD := Lib.hid (show endI er bs = 5 by unfold endI; rw [if_pos he, if_neg hb])
      have hI : ((bs.length : Int) == 0) = false := by simp [hb]
      have hn : (er != 0) = false := by simp [he]
      clear hb he
      go_enter Tryd.func98, Tryd.ntmps98
      go_wp2_with fail
      refine HE.out.mono ?_
      rintro e w1 ⟨rfl, rfl⟩
      go_wp2_with fail
      refine HL.out.mono ?_
      rintro e w1 ⟨rfl, rfl⟩
      go_wp2
      go_ret
      exact ⟨ret_int HD.out.symm, rfl⟩
  · have HD := Lib.hid (show endI er bs = er by unfold endI; rw [if_neg he])
    have hn : (er != 0) = true := by simp [he]
    clear he
    go_enter Tryd.func98, Tryd.ntmps98
    go_wp2_with fail
    refine HE.out.mono ?_
    rintro e w1 ⟨rfl, rfl⟩
    go_wp2
    go_ret
    exact ⟨ret_int HD.out.symm, rfl⟩

end Go.Proofs.YtjhannlioddkkaaDoor

namespace Go.Proofs.YtjhannlioddkkaaDoor
open Go.RowKit
set_option linter.unusedVariables false

theorem step_append_textR {w : World} {ops : Array Oper} {o : Oper} {a : Act} {K : Act → World → Prop} {Q : Exit → Act → World → Prop} {E : Prop} (hgd : o.guard = none) (s x : Operand)
    (ho : o.op = .call { callee := .builtin .append, args := #[s, x], argTypes := #[22, 22] })
    (base : Nat) (v : Value) (pss : List (List Int)) (hs : a.eval s = v) (hown : OSls w base v pss)
    (b cap : Nat) (hx : a.eval x = .slice (some ⟨b, 0, none⟩) 1 cap) (u : Value) (hc : w.cell? ⟨b, 0, none⟩ = some u) (p : List Int) (hu : Sl w u (p.map (Value.int .u8)))
    (h63 : pss.length + 1 ≤ 5000000000000) (hbase : base ≤ w.heap.size)
    (h : ∀ v' w', OSls w' base v' (pss ++ [p]) → Below base w w' → w.grownBy w' v.ownBlock → K (a.put o.dst v') w') : if Region.wanted o (yielded ops a.tmps) = true then Oper.wp Tryd.prog o a w K Q else E := by
  have hw : Region.wanted o (yielded ops a.tmps) = true := by simp [Region.wanted, hgd]
  rw [if_pos hw]
  obtain ⟨vs, h1, h2⟩ := hown
  obtain ⟨i0, hi, hz0, hz1, hz2⟩ := info_parts infoT
  obtain ⟨ua, un, uc, rfl⟩ := hu.val
  obtain ⟨v', w', hrun, hown', hg⟩ := run_append_ownK (P := Tryd.prog) w base 22 o.type 25 i0 (.slice none 0 0) 1 24 Tryd.underlying22 hi hz0 hz1 hz2 rfl (by decide) (by intro c hc; simp [Value.cells] at hc; subst hc; exact notB_slice _ _ _) v pss.length vs h1 ⟨b, 0, none⟩ 1 cap [.slice ua un uc] rfl
    (fun j y hj => by
      match j, hj with
      | 0, hj => simp at hj; subst hj; exact hc
      | j + 1, hj => simp at hj) (by simp [Value.oneCell']) (by simp [notB_slice]) (by unfold maxLen; omega) (by omega) hbase
  unfold Oper.wp execOp
  simp only [ho, resolve, invoke, builtin, Sem.run_bind, Sem.run_pure, Result.andThen_ok, List.map_toArray, List.map_cons, List.map_nil, hs, hx, hrun]
  exact h v' w' ⟨_, by simpa using hown', (h2.keepK h1 hg).snoc (hu.keepK h1 hg)⟩ ((Below.refl _ _).grown hg hbase (fun k hk => (h1.1.lt k hk).1)) hg


theorem OSls.keepGk {w w' : World} {base : Nat} {v : Value} {pss : List (List Int)} (h : OSls w base v pss) {g : Nat} {t : TypeId} {cs : Array Value} (k : Blk w g t cs) (hne : 25 ≠ t) (hcs : ∀ (j : Nat) (n : Int), cs[j]? ≠ some (.int .u8 n)) (hg : w.grownBy w' (some g)) : OSls w' base v pss := by
  obtain ⟨vs, h1, h2⟩ := h
  have hn : v.ownBlock ≠ some g := own_blk_ne h1.1 k hne
  refine ⟨vs, ⟨h1.1.kept hg (.inr hn), fun g' hg' => ?_⟩, ?_⟩
  · obtain ⟨cur, hc1, hc2⟩ := h1.2 g' hg'
    exact ⟨cur, (hg.block g' (h1.1.lt g' hg').2 (fun e => hn (by rw [hg', e]))).trans hc1, hc2⟩
  · have key : ∀ {us : List Value} {ps : List (List Int)}, SlAll w us ps → SlAll w' us ps := by
      intro us
      induction us with
      | nil => intro ps h; cases ps with
        | nil => trivial
        | cons _ _ => exact h.elim
      | cons u us ih => intro ps h; cases ps with
        | nil => exact h.elim
        | cons p ps => exact ⟨h.1.keepG k hcs hg, ih h.2⟩
    exact key h2

def isSl (v : Value) : Prop := ∃ a n c, v = .slice a n c
theorem rec_noB {e1 e2 e4 : Int} {tv lv ov : Value} (h1 : isSl tv) (h2 : isSl lv) (h3 : isSl ov) : ∀ (j : Nat) (n : Int), (#[.int .i64 e1, .int .i64 e2, tv, .int .i64 e4, lv, ov] : Array Value)[j]? ≠ some (.int .u8 n) := by
  obtain ⟨_, _, _, rfl⟩ := h1
  obtain ⟨_, _, _, rfl⟩ := h2
  obtain ⟨_, _, _, rfl⟩ := h3
  intro j n h
  match j, h with
  | 0, h => cases h
  | 1, h => cases h
  | 2, h => cases h
  | 3, h => cases h
  | 4, h => cases h
  | 5, h => cases h
  | j + 6, h => simp at h

/-- How far Decode has come: the record that it fills, the links' row, the reader. -/
structure DecS (W w : World) (g gr : Nat) (e1 e2 e4 : Int) (tv lv ov : Value) (tb lb : List Int) (pss : List (List Int)) (rest : List Int) (er : Int) : Prop where
  kR : Blk w gr 35 #[.int .i64 e1, .int .i64 e2, tv, .int .i64 e4, lv, ov]
  hO : OSls w W.heap.size ov pss
  hr : Rd w g rest er
  ht : Sl w tv (tb.map (Value.int .u8))
  hl : Sl w lv (lb.map (Value.int .u8))
  kZ : Blk w W.heap.size 35 #[.int .i64 0, .int .i64 0, .slice none 0 0, .int .i64 0, .slice none 0 0, .slice none 0 0]
  hb : Below W.heap.size W w
  h1 : g ≠ gr
  h2 : W.heap.size < g
  h3 : W.heap.size < gr

section
variable {W w w1 : World} {g gr : Nat} {e1 e2 e4 : Int} {tv lv ov : Value} {tb lb : List Int} {pss : List (List Int)} {rest : List Int} {er : Int}
theorem DecS.below (h : DecS W w g gr e1 e2 e4 tv lv ov tb lb pss rest er) (hb : Below w.heap.size w w1) : DecS W w1 g gr e1 e2 e4 tv lv ov tb lb pss rest er :=
  ⟨h.kR.belowS hb, h.hO.below hb, h.hr.below hb, h.ht.below hb (Nat.le_refl _), h.hl.below hb (Nat.le_refl _), h.kZ.belowS hb, below_trans2 h.hb hb, h.h1, h.h2, h.h3⟩
theorem DecS.read (h : DecS W w g gr e1 e2 e4 tv lv ov tb lb pss rest er) {rest' : List Int} {er' : Int} (hR : RdAt w w1 g rest' er') : DecS W w1 g gr e1 e2 e4 tv lv ov tb lb pss rest' er' :=
  ⟨h.kR.grown hR.2 (by intro e; cases e; exact h.h1 rfl), h.hO.keepRd h.hr hR.2, hR.1, h.hr.sl hR.2 h.ht, h.hr.sl hR.2 h.hl, h.kZ.grown hR.2 (by intro e; cases e; exact absurd h.h2 (Nat.lt_irrefl _)), below_of_only h.hb hR.2 (Nat.le_of_lt h.h2) h.hb.size, h.h1, h.h2, h.h3⟩
theorem DecS.app (h : DecS W w g gr e1 e2 e4 tv lv ov tb lb pss rest er) {ov' : Value} {pss' : List (List Int)} (hO : OSls w1 W.heap.size ov' pss') (hg : w.grownBy w1 ov.ownBlock) :
    w1.cell? ⟨gr, 5, none⟩ = some ov ∧ w1.frozen? ⟨gr, 5, none⟩ = false ∧ DecS W (w1.setCell ⟨gr, 5, none⟩ ov') g gr e1 e2 e4 tv lv ov' tb lb pss' rest er := by
  have kR := h.kR.keepO h.hO hg (by decide)
  have hr := Rd.keepT h.hO h.hr hg
  have kZ := h.kZ.keepO h.hO hg (by decide)
  have hOO := h.hO
  obtain ⟨vs, o1, o2⟩ := hOO
  have ht := h.ht.keepK o1 hg
  have hl := h.hl.keepK o1 hg
  have hb : Below W.heap.size W w1 := h.hb.grown hg h.hb.size (fun k hk => (o1.1.lt k hk).1)
  obtain ⟨ta, tn, tc, e1'⟩ := ht.val
  obtain ⟨la, ln, lc, e2'⟩ := hl.val
  obtain ⟨oa, oc, e3'⟩ := OSls.val h.hO
  have hNB := rec_noB (e1 := e1) (e2 := e2) (e4 := e4) ⟨_, _, _, e1'⟩ ⟨_, _, _, e2'⟩ ⟨_, _, _, e3'⟩
  have hgS : w1.grownBy (w1.setCell ⟨gr, 5, none⟩ ov') (some gr) := only_setCell (p := ⟨gr, 5, none⟩) (World.grownBy.refl _ _) (.inl rfl) _
  obtain ⟨x, r1, r2⟩ := hr
  refine ⟨kR.cell 5, kR.frozen 5, kR.set_ 5 _, hO.keepGk kR (by decide) hNB hgS, ⟨x, r1.grown hgS (by intro e; cases e; exact h.h1 rfl), r2.keepG kR hNB hgS⟩, ht.keepG kR hNB hgS, hl.keepG kR hNB hgS, kZ.grown hgS (by intro e; cases e; exact absurd h.h3 (Nat.lt_irrefl _)), below_of_only hb hgS (Nat.le_of_lt h.h3) hb.size, h.h1, h.h2, h.h3⟩
end

end Go.Proofs.YtjhannlioddkkaaDoor

namespace Go.Proofs.YtjhannlioddkkaaDoor
open Go.RowKit
set_option linter.unusedVariables false

theorem run_make_bytes (n : Nat) (hn : n ≤ 140737488355328) (w : World) :
    (Instr.makeSlice 25 (.int .i64 n) (.int .i64 n)).run Tryd.prog w = .ok (.slice (some ⟨w.heap.size, 0, none⟩) n n) (w.alloc (.cells (Array.replicate n (Value.int .u8 0)) 5)) := by
  have h := run_make_row' (P := Tryd.prog) 25 5 (.int .u8 0) 1 Tryd.underlying25 (by kernel_rfl) rfl .i64 .i64 n (by omega) (by omega) w
  rw [h]
  have e : madeCells #[.int .u8 0] n = Array.replicate n (Value.int .u8 0) := by
    apply Array.ext'
    rw [toList_madeCells_one]
    simp
  rw [e]

/-- The first n of some bytes, noughts behind them. -/
def padTo (n : Nat) (b : List Int) : List Int := b.take n ++ List.replicate (n - b.length) 0
theorem padTo_len (n : Nat) (b : List Int) : (padTo n b).length = n := by simp [padTo]; omega
theorem padTo_isB {b : List Int} (h : IsB b) (n : Nat) : IsB (padTo n b) := (h.take n).append (fun x hx => by rw [List.eq_of_mem_replicate hx]; omega)

theorem infoSize8 : (Tryd.prog.info? 5).map (·.size) = some 1 := by kernel_rfl

theorem Sl.ofBlk {w : World} {g : Nat} {t : TypeId} {xs : List Value} (h : Blk w g t xs.toArray) (n : Nat) (hn : n = xs.length) (hm : xs.length ≤ maxLen) : Sl w (.slice (some ⟨g, 0, none⟩) n n) xs := by
  subst hn
  refine ⟨_, xs.length, rfl, Nat.le_refl _, hm, fun hp => ⟨g, 0, rfl, h.lt, fun j u hu => ?_⟩⟩
  rw [h.cell]
  simpa using hu

theorem wpList_copy_pad {w : World} {ops : Array Oper} {rest : List Oper} {o : Oper} {a : Act} {Q : Exit → Act → World → Prop} (hgd : o.guard = none) (d s : Operand)
    (ho : o.op = .call { callee := .builtin .copy, args := #[d, s], argTypes := #[25, 25] })
    (g n cap : Nat) (hd : a.eval d = .slice (some ⟨g, 0, none⟩) n cap) (u : Value) (ys : List Int) (hs : a.eval s = u) (hsl : Sl w u (ys.map (Value.int .u8)))
    (hg0 : Blk w g 5 (Array.replicate n (Value.int .u8 0))) (B : Nat) (w0 : World) (hb : Below B w0 w) (hBg : B ≤ g)
    (h : ∀ w' (k : Int), Hid (Blk w' g 5 (((padTo n ys).map (Value.int .u8)).toArray)) → Below B w0 w' → wpList Tryd.prog ops Q rest (a.put o.dst (.int .i64 k)) w') : wpList Tryd.prog ops Q (o :: rest) a w := by
  have hg : Blk w g 5 (((List.replicate n (0 : Int)).map (Value.int .u8)).toArray) := by
    rw [List.map_replicate, List.toArray_replicate]; exact hg0
  obtain ⟨ua, uc, rfl, h1, h2, h3⟩ := hsl
  rw [List.length_map] at *
  refine wpList_copy_splice hgd d s _ _ ho 5 Tryd.underlying25 infoSize8 (some ⟨g, 0, none⟩) ua n cap ys.length uc hd hs g 0 ((List.replicate n (0 : Int)).map (Value.int .u8)) 5 hg ((ys.take n).map (Value.int .u8))
    (by rw [List.length_map, List.length_take]; exact Nat.min_comm _ _) (fun hp => ⟨rfl, ?_⟩) (by simp; omega) (one8 _) B w0 hb hBg (fun w' hw' hb' => ?_)
  · obtain ⟨b, off, rfl, hlt, hc⟩ := h3 (by simp at hp ⊢; omega)
    refine ⟨_, rfl, fun j v hv => ?_⟩
    rw [add_plain0]
    refine hc j v ?_
    rw [List.getElem?_map, List.getElem?_take] at hv
    rw [List.getElem?_map]
    split at hv
    · exact hv
    · cases hv
  · refine h w' _ ?_ hb'
    have e : splice ((List.replicate n (0 : Int)).map (Value.int .u8)) 0 ((ys.take n).map (Value.int .u8)) = (padTo n ys).map (Value.int .u8) := by
      unfold splice padTo
      rw [List.take_zero, List.nil_append, Nat.zero_add, ← List.map_drop, List.length_map, List.drop_replicate, ← List.map_append]
      congr 3
      simp
      omega
    show Blk w' g _ _
    rw [← e]
    exact hw'.out

end Go.Proofs.YtjhannlioddkkaaDoor

namespace Go.Proofs.YtjhannlioddkkaaDoor
open Go.RowKit
set_option linter.unusedVariables false

theorem results_cell_tmp2 {fn : Func} {p u v : Tmp} {ty : TypeId} (h : fn.results = #[.cell p ty, .tmp u, .tmp v]) (tmps : Array Value) (P : Program) (w : World) :
    (results fn tmps).run P w =
      ((asAddr (tmps.getD p undef)).run P w).andThen fun a w₁ => ((loadVar ty a).run P w₁).andThen fun x w₂ => .ok (.tuple #[x, tmps.getD u undef, tmps.getD v undef]) w₂ := by
  simp only [results, h]
  simp [Sem.run_bind, Result.andThen]

/-- The i-th piece of some bytes, z bytes each. -/
def chunkI (z : Nat) (r : List Int) (i : Nat) : List Int := (r.drop (z * i)).take z
def chunksI (z : Nat) (r : List Int) (a n : Nat) : List (List Int) := (List.range n).map fun i => chunkI z r (a + i)
theorem chunksI_succ (z : Nat) (r : List Int) (a n : Nat) : chunksI z r a (n + 1) = chunksI z r a n ++ [chunkI z r (a + n)] := by unfold chunksI; rw [List.range_succ, List.map_append]; rfl
theorem chunksI_len (z : Nat) (r : List Int) (a n : Nat) : (chunksI z r a n).length = n := by simp [chunksI]

/-- What the reader reads first: a number that has so many bits. -/
def mrU (h : Nat) (bs : List Int) : Int × List Int × Int := uI (2 ^ h - 1) bs 0
def mrNeed (size height : Int) : Nat := size.toNat * (4 * size.toNat + 5 + height.toNat)
def mrC (size height : Int) (bs : List Int) : Int :=
  if mcanB size height = false then 1 else if (mrU height.toNat bs).2.2 ≠ 0 then (mrU height.toNat bs).2.2 else if (mrU height.toNat bs).2.1.length < mrNeed size height then 3 else 0
def mrParts (size : Int) (r : List Int) : List (List Int) := chunksI size.toNat r 0 (4 * size.toNat + 5)
def mrPath (size height : Int) (r : List Int) : List (List Int) := chunksI size.toNat r (4 * size.toNat + 5) height.toNat

theorem set3_below {B : Nat} {W w : World} {g : Nat} (h : Below B W w) (hg : B ≤ g) (hB : B ≤ w.heap.size) (x0 x1 x2 : Value) : Below B W (((w.setCell ⟨g, 0, none⟩ x0).setCell ⟨g, 1, none⟩ x1).setCell ⟨g, 2, none⟩ x2) :=
  ((h.setCell (p := ⟨g, 0, none⟩) hg x0).setCell (p := ⟨g, 1, none⟩) hg x1).setCell (p := ⟨g, 2, none⟩) hg x2

/-- What Read answers. -/
def MrRes (w w' : World) (size height : Int) (bs : List Int) (x y : Value) : Prop :=
  (mrC size height bs = 0 → SigV w' x (mrU height.toNat bs).1 (mrParts size (mrU height.toNat bs).2.1) (mrPath size height (mrU height.toNat bs).2.1) ∧ Sl w' y (((mrU height.toNat bs).2.1.drop (mrNeed size height)).map (Value.int .u8))) ∧
  (¬ mrC size height bs = 0 → x = .agg #[.int .i64 0, .slice none 0 0, .slice none 0 0] ∧ y = .slice none 0 0) ∧ Below w.heap.size w w'

theorem MrRes.no {w w' : World} {size height : Int} {bs : List Int} (hb : Below w.heap.size w w') (hc : ¬ mrC size height bs = 0) : MrRes w w' size height bs (.agg #[.int .i64 0, .slice none 0 0, .slice none 0 0]) (.slice none 0 0) :=
  ⟨fun h => absurd h hc, fun _ => ⟨rfl, rfl⟩, hb⟩

/-- A row of texts keeps while another such row grows, in another block. -/
theorem OSls.keepV {w w' : World} {base b2 : Nat} {v v2 : Value} {pss pss2 : List (List Int)} (h : OSls w base v pss) (hO : OSls w b2 v2 pss2) (hne : ∀ g, v2.ownBlock = some g → v.ownBlock ≠ some g) (hg : w.grownBy w' v2.ownBlock) : OSls w' base v pss := by
  obtain ⟨us2, k2, _⟩ := hO
  cases hv : v2.ownBlock with
  | none =>
    rw [hv] at hg
    exact h.below ⟨hg.os, hg.tape, hg.output, hg.size, fun k hk => hg.block k hk (by simp)⟩
  | some g =>
    obtain ⟨cs, hc1, hc2⟩ := k2.2 g hv
    have hn := hne g hv
    rw [hv] at hg
    have kB : Blk w g 25 cs := hc1
    have hcs : ∀ (j : Nat) (n : Int), cs[j]? ≠ some (.int .u8 n) := fun j n hj => by
      have hm := Array.mem_of_getElem? hj
      exact hc2 _ (by simpa using hm) n rfl
    obtain ⟨us, k1, k3⟩ := h
    refine ⟨us, ⟨k1.1.kept hg (.inr hn), fun g' hg' => ?_⟩, ?_⟩
    · obtain ⟨cur, hd1, hd2⟩ := k1.2 g' hg'
      exact ⟨cur, (hg.block g' (k1.1.lt g' hg').2 (fun e => hn (by rw [hg', e]))).trans hd1, hd2⟩
    · have key : ∀ {us : List Value} {ps : List (List Int)}, SlAll w us ps → SlAll w' us ps := by
        intro us
        induction us with
        | nil => intro ps h; cases ps with
          | nil => trivial
          | cons _ _ => exact h.elim
        | cons u us ih => intro ps h; cases ps with
          | nil => exact h.elim
          | cons p ps => exact ⟨h.1.keepG kB hcs hg, ih h.2⟩
      exact key k3

theorem Sl.keepV {w w' : World} {b2 : Nat} {u v2 : Value} {zs : List Int} {pss2 : List (List Int)} (hs : Sl w u (zs.map (Value.int .u8))) (hO : OSls w b2 v2 pss2) (hg : w.grownBy w' v2.ownBlock) : Sl w' u (zs.map (Value.int .u8)) := by
  obtain ⟨us2, k2, _⟩ := hO
  cases hv : v2.ownBlock with
  | none =>
    rw [hv] at hg
    exact hs.below (B := w.heap.size) ⟨hg.os, hg.tape, hg.output, hg.size, fun k hk => hg.block k hk (by simp)⟩ (Nat.le_refl _)
  | some g =>
    obtain ⟨cs, hc1, hc2⟩ := k2.2 g hv
    rw [hv] at hg
    have kB : Blk w g 25 cs := hc1
    exact hs.keepG kB (fun j n hj => by
      have hm := Array.mem_of_getElem? hj
      exact hc2 _ (by simpa using hm) n rfl) hg

theorem sig_noB {idx : Int} {vp vq : Value} (h1 : isSl vp) (h2 : isSl vq) : ∀ (j : Nat) (n : Int), (#[.int .i64 idx, vp, vq] : Array Value)[j]? ≠ some (.int .u8 n) := by
  obtain ⟨_, _, _, rfl⟩ := h1
  obtain ⟨_, _, _, rfl⟩ := h2
  intro j n h
  match j, h with
  | 0, h => simp at h
  | 1, h => simp at h
  | 2, h => simp at h
  | j + 3, h => simp at h

/-- What stands while a signature is read. -/
structure MrS (w wr : World) (gs : Nat) (idx : Int) (vp vq : Value) (Bq : Nat) (P Q : List (List Int)) : Prop where
  kS : Blk wr gs 24 #[.int .i64 idx, vp, vq]
  kZ : Blk wr w.heap.size 24 #[.int .i64 0, .slice none 0 0, .slice none 0 0]
  hP : OSls wr w.heap.size vp P
  hQ : OSls wr Bq vq Q
  ne : ∀ g, vp.ownBlock = some g → g < Bq
  le : Bq ≤ wr.heap.size
  lo : w.heap.size ≤ Bq
  bel : Below w.heap.size w wr
  zs : w.heap.size < gs
theorem OSls.isSl {w : World} {base : Nat} {v : Value} {pss : List (List Int)} (h : OSls w base v pss) : isSl v := by obtain ⟨a, c, rfl⟩ := h.val; exact ⟨_, _, _, rfl⟩
theorem MrS.below {w wr w1 : World} {gs Bq : Nat} {idx : Int} {vp vq : Value} {P Q : List (List Int)} (h : MrS w wr gs idx vp vq Bq P Q) (hb : Below wr.heap.size wr w1) : MrS w w1 gs idx vp vq Bq P Q :=
  ⟨h.kS.belowS hb, h.kZ.belowS hb, h.hP.below hb, h.hQ.below hb, h.ne, Nat.le_trans h.le hb.size, h.lo, below_trans2 h.bel hb, h.zs⟩
theorem MrS.app1 {w wr w5 : World} {gs Bq : Nat} {idx : Int} {vp v5 : Value} {P P5 : List (List Int)} (h : MrS w wr gs idx vp (.slice none 0 0) Bq P []) (hO : OSls w5 w.heap.size v5 P5) (hg : wr.grownBy w5 vp.ownBlock) (hb : Below w.heap.size wr w5) :
    w5.frozen? ⟨gs, 1, none⟩ = false ∧ w5.cell? ⟨gs, 1, none⟩ = some vp ∧ MrS w (w5.setCell ⟨gs, 1, none⟩ v5) gs idx v5 (.slice none 0 0) w5.heap.size P5 [] ∧ ∀ (u : Value) (zs : List Int), Sl wr u (zs.map (Value.int .u8)) → Sl (w5.setCell ⟨gs, 1, none⟩ v5) u (zs.map (Value.int .u8)) := by
  have k5 := h.kS.keepO h.hP hg (by decide)
  have z5 := h.kZ.keepO h.hP hg (by decide)
  have hs : w5.grownBy (w5.setCell ⟨gs, 1, none⟩ v5) (some gs) := only_setCell (p := ⟨gs, 1, none⟩) (World.grownBy.refl _ _) (.inl rfl) _
  have hzs := h.zs
  refine ⟨k5.frozen 1, k5.cell 1, ⟨by have := k5.set_ 1 v5; simpa using this, z5.grown hs (by intro e; cases e; omega), hO.keepGk k5 (by decide) (sig_noB h.hP.isSl ⟨_, _, _, rfl⟩) hs, OSls.nil _ _, fun g hgv => ?_, by simp [World.setCell], (h.bel.trans hb).size, below_of_only (h.bel.trans hb) hs (by omega) (h.bel.trans hb).size, h.zs⟩, fun u zs hu => (hu.keepV h.hP hg).keepG k5 (sig_noB h.hP.isSl ⟨_, _, _, rfl⟩) hs⟩
  obtain ⟨us, k, _⟩ := hO
  exact (k.1.lt g hgv).2
theorem MrS.app2 {w wr w5 : World} {gs Bq : Nat} {idx : Int} {vp vq v5 : Value} {P Q Q5 : List (List Int)} (h : MrS w wr gs idx vp vq Bq P Q) (hO : OSls w5 Bq v5 Q5) (hg : wr.grownBy w5 vq.ownBlock) (hb0 : Below Bq wr w5) (hwB : w.heap.size ≤ Bq) :
    w5.frozen? ⟨gs, 2, none⟩ = false ∧ w5.cell? ⟨gs, 2, none⟩ = some vq ∧ MrS w (w5.setCell ⟨gs, 2, none⟩ v5) gs idx vp v5 Bq P Q5 ∧ ∀ (u : Value) (zs : List Int), Sl wr u (zs.map (Value.int .u8)) → Sl (w5.setCell ⟨gs, 2, none⟩ v5) u (zs.map (Value.int .u8)) := by
  have hb : Below w.heap.size wr w5 := hb0.mono hwB
  have k5 := h.kS.keepO h.hQ hg (by decide)
  have z5 := h.kZ.keepO h.hQ hg (by decide)
  have hs : w5.grownBy (w5.setCell ⟨gs, 2, none⟩ v5) (some gs) := only_setCell (p := ⟨gs, 2, none⟩) (World.grownBy.refl _ _) (.inl rfl) _
  have hzs := h.zs
  have hNB := sig_noB (idx := idx) h.hP.isSl h.hQ.isSl
  have hP5 := h.hP.keepV h.hQ (fun g hgq hgp => by
    obtain ⟨us, k, _⟩ := h.hQ
    have h1 := (k.1.lt g hgq).1
    have h2 := h.ne g hgp
    omega) hg
  exact ⟨k5.frozen 2, k5.cell 2, ⟨by have := k5.set_ 2 v5; simpa using this, z5.grown hs (by intro e; cases e; omega), hP5.keepGk k5 (by decide) hNB hs, hO.keepGk k5 (by decide) hNB hs, h.ne, by simp [World.setCell]; exact Nat.le_trans h.le hg.size, h.lo, below_of_only (h.bel.trans hb) hs (by omega) (h.bel.trans hb).size, h.zs⟩, fun u zs hu => (hu.keepV h.hQ hg).keepG k5 hNB hs⟩

end Go.Proofs.YtjhannlioddkkaaDoor

namespace Go.Proofs.YtjhannlioddkkaaDoor
open Go.RowKit
set_option linter.unusedVariables false

theorem bytesI_isB {s : List Int} (h : IsB s) (hl : s.length ≤ 4611686018427387904) : IsB (bytesI s) := by
  intro x hx
  unfold bytesI at hx
  rcases List.mem_append.1 hx with hx | hx
  · exact uintN_isB _ hl x hx
  · exact h x hx
theorem encI_isB {size ep ti co : Int} {tr li : List Int} {ln : List (List Int)} (hC : canI size ep ti tr co li ln) (h1 : IsB tr) (h2 : IsB li) (h3 : ∀ p ∈ ln, IsB p) : IsB (encI ep ti tr co li ln) := by
  obtain ⟨hs, he, ht, hc, hx, hl, ha⟩ := hC
  intro x hx
  unfold encI at hx
  simp only [List.mem_append, List.mem_flatMap] at hx
  rcases hx with hx | hx | hx | hx | hx | ⟨p, hp, hx⟩
  · exact uintN_isB _ (by omega) x hx
  · exact uintN_isB _ (by omega) x hx
  · exact bytesI_isB h1 (by omega) x hx
  · exact uintN_isB _ (by omega) x hx
  · exact bytesI_isB h2 (by omega) x hx
  · exact bytesI_isB (h3 p hp) (by have := ha p hp; omega) x hx
theorem contE_isB (size ep ti co : Int) (tr li : List Int) (ln : List (List Int)) (h1 : IsB tr) (h2 : IsB li) (h3 : ∀ p ∈ ln, IsB p) : IsB (contE size ep ti tr co li ln) := by
  unfold contE
  split
  · rename_i h; exact encI_isB h h1 h2 h3
  · intro x hx; cases hx
theorem d_isB (size : Int) (bs : List Int) (hB : IsB bs) : IsB (d3 size bs).1 ∧ IsB (d5 size bs).1 ∧ ∀ p ∈ (d6 size bs).1, IsB p := by
  obtain ⟨l1, l2, l3, l4, l5, l6⟩ := d_left size bs
  exact ⟨bI_isB _ _ _ (suf_isB l2 hB), bI_isB _ _ _ (suf_isB l4 hB), (lkN_isB _ _ _ (fun p hp => by cases hp) (suf_isB l5 hB)).1⟩
theorem cont_isB (size : Int) (bs : List Int) (hB : IsB bs) : IsB (contE size (d1 bs).1 (d2 bs).1 (d3 size bs).1 (d4 size bs).1 (d5 size bs).1 (d6 size bs).1) :=
  contE_isB _ _ _ _ _ _ _ (d_isB size bs hB).1 (d_isB size bs hB).2.1 (d_isB size bs hB).2.2
theorem decOk_iff (size : Int) (bs : List Int) : decOk size bs ↔ (endI (d6 size bs).2.2 (d6 size bs).2.1 = 0 ∧ codeE size (d1 bs).1 (d2 bs).1 (d3 size bs).1 (d4 size bs).1 (d5 size bs).1 (d6 size bs).1 = 0 ∧ contE size (d1 bs).1 (d2 bs).1 (d3 size bs).1 (d4 size bs).1 (d5 size bs).1 (d6 size bs).1 = bs) := by
  unfold decOk endI codeE contE
  constructor
  · rintro ⟨h1, h2, h3, h4⟩
    rw [if_pos h1, if_pos h2, if_pos h3, if_pos h3]
    exact ⟨rfl, rfl, h4⟩
  · rintro ⟨h1, h2, h3⟩
    by_cases hC : canI size (d1 bs).1 (d2 bs).1 (d3 size bs).1 (d4 size bs).1 (d5 size bs).1 (d6 size bs).1
    · rw [if_pos hC] at h3
      by_cases he : (d6 size bs).2.2 = 0
      · rw [if_pos he] at h1
        by_cases hr : (d6 size bs).2.1 = []
        · exact ⟨he, hr, hC, h3⟩
        · rw [if_neg hr] at h1; cases h1
      · rw [if_neg he] at h1; exact absurd h1 he
    · rw [if_neg hC] at h2; cases h2

def decC (size : Int) (bs : List Int) : Int := if decOk size bs then 0 else 5
def DecRes (w w' : World) (size : Int) (bs : List Int) (x : Value) : Prop :=
  (decOk size bs → RecV w' x (d1 bs).1 (d2 bs).1 (d3 size bs).1 (d4 size bs).1 (d5 size bs).1 (d6 size bs).1) ∧ (¬ decOk size bs → x = .agg #[.int .i64 0, .int .i64 0, .slice none 0 0, .int .i64 0, .slice none 0 0, .slice none 0 0]) ∧ Below w.heap.size w w'

theorem sixSet {w : World} {g : Nat} (x0 x1 x2 x3 x4 x5 : Value) : w.grownBy ((((((w.setCell ⟨g, 0, none⟩ x0).setCell ⟨g, 1, none⟩ x1).setCell ⟨g, 2, none⟩ x2).setCell ⟨g, 3, none⟩ x3).setCell ⟨g, 4, none⟩ x4).setCell ⟨g, 5, none⟩ x5) (some g) :=
  only_setCell (p := ⟨g, 5, none⟩) (only_setCell (p := ⟨g, 4, none⟩) (only_setCell (p := ⟨g, 3, none⟩) (only_setCell (p := ⟨g, 2, none⟩) (only_setCell (p := ⟨g, 1, none⟩) (only_setCell (p := ⟨g, 0, none⟩) (World.grownBy.refl _ _) (.inl rfl) _) (.inl rfl) _) (.inl rfl) _) (.inl rfl) _) (.inl rfl) _) (.inl rfl) _

theorem DecS.stored {W w w1 : World} {g gr : Nat} {e1 e2 e4 : Int} {tv lv ov : Value} {tb lb : List Int} {pss : List (List Int)} {rest : List Int} {er : Int} (h : DecS W w g gr e1 e2 e4 tv lv ov tb lb pss rest er) (hg : w.grownBy w1 (some W.heap.size)) :
    RecV w1 (.agg #[.int .i64 e1, .int .i64 e2, tv, .int .i64 e4, lv, ov]) e1 e2 tb e4 lb pss ∧ Below W.heap.size W w1 := by
  have hNB := rec_noB (e1 := 0) (e2 := 0) (e4 := 0) (tv := .slice none 0 0) (lv := .slice none 0 0) (ov := .slice none 0 0) ⟨_, _, _, rfl⟩ ⟨_, _, _, rfl⟩ ⟨_, _, _, rfl⟩
  exact ⟨⟨tv, lv, ov, rfl, h.ht.keepG h.kZ hNB hg, h.hl.keepG h.kZ hNB hg, (h.hO.keepGk h.kZ (by decide) hNB hg).sls⟩, below_of_only h.hb hg (Nat.le_refl _) h.hb.size⟩
theorem rec6f {w : World} {g : Nat} {t : TypeId} {cs : Array Value} (k : Blk w g t cs) :
    w.frozen? ⟨g, 0, none⟩ = false ∧ w.frozen? ⟨g, 1, none⟩ = false ∧ w.frozen? ⟨g, 2, none⟩ = false ∧ w.frozen? ⟨g, 3, none⟩ = false ∧ w.frozen? ⟨g, 4, none⟩ = false ∧ w.frozen? ⟨g, 5, none⟩ = false := ⟨k.frozen 0, k.frozen 1, k.frozen 2, k.frozen 3, k.frozen 4, k.frozen 5⟩

set_option maxRecDepth 100000 in
set_option maxHeartbeats 4000000 in
theorem dec_any (size : Int) (v : Value) (bs : List Int) (w : World) (hz0 : -9223372036854775808 ≤ size) (hz1 : size ≤ 9223372036854775807) (hl : bs.length ≤ 140737488351232) (hB : IsB bs) (hs : Sl w v (bs.map (Value.int .u8))) (hT : TzTab w) :
    Calls Tryd.prog 64 #[.int .i64 size, v] w fun e w' => ∃ x, e = .returned (.tuple #[x, .int .i64 (decC size bs)]) ∧ DecRes w w' size bs x := by
  obtain ⟨a, cap, rfl, hc, hm⟩ := hs.shape
  rw [List.length_map] at *
  have hb1 : Below w.heap.size w (w.alloc (.cells #[.int .i64 0, .int .i64 0, .slice none 0 0, .int .i64 0, .slice none 0 0, .slice none 0 0] 35)) := (Below.refl _ _).alloc (Nat.le_refl _) _
  have kZ := Blk.new w 35 #[.int .i64 0, .int .i64 0, .slice none 0 0, .int .i64 0, .slice none 0 0, .slice none 0 0]
  have hs1 := hs.below hb1 (Nat.le_refl _)
  have hsz1 : (w.alloc (.cells #[.int .i64 0, .int .i64 0, .slice none 0 0, .int .i64 0, .slice none 0 0, .slice none 0 0] 35)).heap.size = w.heap.size + 1 := by simp
  have HLL := Lib.hid hl
  have HB := Lib.hid hB
  have HSS := Lib.hid hs
  have HTT := Lib.hid hT
  obtain ⟨l1, l2, l3, l4, l5, l6⟩ := d_left size bs
  have HL1 := Lib.hid l1
  have HL2 := Lib.hid l2
  have HL3 := Lib.hid l3
  have HL4 := Lib.hid l4
  have HL5 := Lib.hid l5
  have HL6 := Lib.hid l6
  clear hs hl hB hT l1 l2 l3 l4 l5 l6
  go_enter Tryd.func64, Tryd.ntmps64
  go_wp2_with fail
  generalize (w.alloc (.cells #[.int .i64 0, .int .i64 0, .slice none 0 0, .int .i64 0, .slice none 0 0, .slice none 0 0] 35)) = w1 at *
  refine (copen_any _ bs w1 HLL.out hs1).mono ?_
  rintro e w2 ⟨g, rfl, hg, hr2, hb2⟩
  have kZ := kZ.belowS hb2
  have hbr := hb1.trans (hb2.mono hb1.size)
  have hgP : w.heap.size < g := by omega
  clear hs1 hb1 hb2 hsz1 hg
  have HU := Lib.hid (cruint_any g bs 0 255 w2 HB.out HLL.out hr2)
  go_wp2_with fail
  refine HU.out.mono ?_
  rintro e w3 ⟨rfl, hr3, hg3⟩
  have hr3 : Rd w3 g (d1 bs).2.1 (d1 bs).2.2 := hr3
  have kZ := kZ.grown hg3 (by intro e; cases e; omega)
  have hbr := below_of_only hbr hg3 (by omega) hbr.size
  clear hg3 HU hr2
  have HU := Lib.hid (cruint_any g (d1 bs).2.1 (d1 bs).2.2 1125899906842624 w3 (suf_isB HL1.out HB.out) (Nat.le_trans (suf_len HL1.out) HLL.out) hr3)
  go_wp2_with fail
  refine HU.out.mono ?_
  rintro e w4 ⟨rfl, hr4, hg4⟩
  have hr4 : Rd w4 g (d2 bs).2.1 (d2 bs).2.2 := hr4
  have kZ := kZ.grown hg4 (by intro e; cases e; omega)
  have hbr := below_of_only hbr hg4 (by omega) hbr.size
  clear hg4 HU hr3
  have HU := Lib.hid (crbytes_any g (d2 bs).2.1 (d2 bs).2.2 size w4 (suf_isB HL2.out HB.out) (Nat.le_trans (suf_len HL2.out) HLL.out) hr4)
  go_wp2_with fail
  refine HU.out.mono ?_
  rintro e w5 ⟨tv, rfl, ht5, hr5, hg5⟩
  have hr5 : Rd w5 g (d3 size bs).2.1 (d3 size bs).2.2 := hr5
  have ht5 : Sl w5 tv ((d3 size bs).1.map (Value.int .u8)) := ht5
  have kZ := kZ.grown hg5 (by intro e; cases e; omega)
  have hbr := below_of_only hbr hg5 (by omega) hbr.size
  clear hg5 HU hr4
  have HU := Lib.hid (cruint_any g (d3 size bs).2.1 (d3 size bs).2.2 32 w5 (suf_isB HL3.out HB.out) (Nat.le_trans (suf_len HL3.out) HLL.out) hr5)
  go_wp2_with fail
  refine HU.out.mono ?_
  rintro e w6 ⟨rfl, hr6, hg6⟩
  have ht6 := hr5.sl hg6 ht5
  have hr6 : Rd w6 g (d4 size bs).2.1 (d4 size bs).2.2 := hr6
  have kZ := kZ.grown hg6 (by intro e; cases e; omega)
  have hbr := below_of_only hbr hg6 (by omega) hbr.size
  clear hg6 HU hr5 ht5
  have HU := Lib.hid (crbytes_any g (d4 size bs).2.1 (d4 size bs).2.2 size w6 (suf_isB HL4.out HB.out) (Nat.le_trans (suf_len HL4.out) HLL.out) hr6)
  go_wp2_with fail
  refine HU.out.mono ?_
  rintro e w7 ⟨lv, rfl, hl7, hr7, hg7⟩
  have ht7 := hr6.sl hg7 ht6
  have hr7 : Rd w7 g (d5 size bs).2.1 (d5 size bs).2.2 := hr7
  have hl7 : Sl w7 lv ((d5 size bs).1.map (Value.int .u8)) := hl7
  have kZ := kZ.grown hg7 (by intro e; cases e; omega)
  have hbr := below_of_only hbr hg7 (by omega) hbr.size
  clear hg7 HU hr6 ht6
  have hE : (uI 255 bs 0).1 = (d1 bs).1 := rfl
  have hE2 : (uI 1125899906842624 (d1 bs).2.1 (d1 bs).2.2).1 = (d2 bs).1 := rfl
  have hE4 : (uI 32 (d3 size bs).2.1 (d3 size bs).2.2).1 = (d4 size bs).1 := rfl
  rw [hE, hE2, hE4]
  clear hE hE2 hE4
  obtain ⟨ta, tn, tc, rfl⟩ := ht7.val
  obtain ⟨la, lcn, lc, rfl⟩ := hl7.val
  have hbR : Below w7.heap.size w7 (w7.alloc (.cells #[.int .i64 (d1 bs).1, .int .i64 (d2 bs).1, .slice ta tn tc, .int .i64 (d4 size bs).1, .slice la lcn lc, .slice none 0 0] 35)) := (Below.refl _ _).alloc (Nat.le_refl _) _
  have hgr : g < w7.heap.size := by obtain ⟨_, hk, _⟩ := hr7; exact hk.lt
  have hWz := kZ.lt
  have hD : DecS w (w7.alloc (.cells #[.int .i64 (d1 bs).1, .int .i64 (d2 bs).1, .slice ta tn tc, .int .i64 (d4 size bs).1, .slice la lcn lc, .slice none 0 0] 35)) g w7.heap.size (d1 bs).1 (d2 bs).1 (d4 size bs).1 (.slice ta tn tc) (.slice la lcn lc) (.slice none 0 0) (d3 size bs).1 (d5 size bs).1 [] (d5 size bs).2.1 (d5 size bs).2.2 :=
    ⟨Blk.new w7 _ _, OSls.nil _ _, hr7.below hbR, ht7.below hbR (Nat.le_refl _), hl7.below hbR (Nat.le_refl _), kZ.belowS hbR, below_trans2 hbr hbR, by omega, hgP, hWz⟩
  have HDD := Lib.hid hD
  clear hD
  go_wp2_with fail
  generalize (w7.alloc (.cells #[.int .i64 (d1 bs).1, .int .i64 (d2 bs).1, .slice ta tn tc, .int .i64 (d4 size bs).1, .slice la lcn lc, .slice none 0 0] 35)) = w8 at *
  have hD := HDD.out
  have HV := Lib.hid (uI_val 255 bs 0 HB.out)
  have hv0 : 0 ≤ (d1 bs).1 := HV.out.1
  have hv1 : (d1 bs).1 ≤ 255 := by
    by_cases he : (uI 255 bs 0).2.2 = 0
    · exact HV.out.2.2.1 he
    · have := HV.out.2.2.2 he; show (uI 255 bs 0).1 ≤ 255; omega
  have HK := Lib.hid (links_any (d1 bs).1 hv0 hv1 w8 (HTT.out.below hD.hb))
  have HN := Lib.hid (links_le (d1 bs).1)
  have HD6 := Lib.hid (show d6 size bs = lkN size (linksI (d1 bs).1) ([], (d5 size bs).2.1, (d5 size bs).2.2) from rfl)
  have HL6 := Lib.hid HL6.out
  have HDS := Lib.hid hD
  have hN9 : linksI (d1 bs).1 ≤ 9 := HN.out
  clear hv0 hv1 HV hr7 ht7 hl7 kZ hbr hbR hD hWz
  generalize hLN : linksI (d1 bs).1 = N at *
  refine HK.out.mono ?_
  rintro e w9 ⟨rfl, rfl⟩
  go_wp2
  go_loopw [28] (fun i wr => ∃ (k : Nat) (ov : Value), i = .int .i64 k ∧ k ≤ N ∧ DecS w wr g w7.heap.size (d1 bs).1 (d2 bs).1 (d4 size bs).1 (.slice ta tn tc) (.slice la lcn lc) ov (d3 size bs).1 (d5 size bs).1 (lkN size k ([], (d5 size bs).2.1, (d5 size bs).2.2)).1 (lkN size k ([], (d5 size bs).2.1, (d5 size bs).2.2)).2.1 (lkN size k ([], (d5 size bs).2.1, (d5 size bs).2.2)).2.2) (fun i _ => N - (intOf i).toNat)
  case atStart => exact ⟨0, _, rfl, by omega, HDS.out⟩
  case round =>
    obtain ⟨k, ov, rfl, hk, hD⟩ := hrel
    clear HDS HK HDD
    by_cases hlt : k < N
    · have hkI : (k : Int) < (N : Int) := by omega
      have HLK := Lib.hid (lkN_len size k ([], (d5 size bs).2.1, (d5 size bs).2.2))
      have HSB := Lib.hid (suf_isB (HL6.out k) HB.out)
      have HSL := Lib.hid (Nat.le_trans (suf_len (HL6.out k)) HLL.out)
      have HST := Lib.hid (show lkN size (k + 1) ([], (d5 size bs).2.1, (d5 size bs).2.2) = lkStep size (lkN size k ([], (d5 size bs).2.1, (d5 size bs).2.2)) from rfl)
      generalize lkN size k ([], (d5 size bs).2.1, (d5 size bs).2.2) = st at *
      obtain ⟨s1, s2, s3⟩ := st
      simp only at hD HSB HSL HLK
      have HLK := Lib.hid (show s1.length + 1 ≤ 5000000000000 by have := HLK.out; simp only [List.length_nil] at this; omega)
      have hgr2 : w.heap.size ≤ wr.heap.size := hD.hb.size
      obtain ⟨oa, oc, rfl⟩ := hD.hO.val
      have q0 : wr.cell? ⟨w7.heap.size, 5, none⟩ = some (.slice oa s1.length oc) := hD.kR.cell 5
      have HX := Lib.hid (fun w1 (hb1 : Below wr.heap.size wr w1) => crbytes_any g s2 s3 size w1 HSB.out HSL.out (hD.below hb1).hr)
      have HDk := Lib.hid (fun w1 (hb1 : Below wr.heap.size wr w1) => hD.below hb1)
      have HBI := Lib.hid (show lkStep size (s1, s2, s3) = (s1 ++ [(bI size s2 s3).1], (bI size s2 s3).2.1, (bI size s2 s3).2.2) from rfl)
      generalize hbI : bI size s2 s3 = bi at *
      obtain ⟨P, P2, P3⟩ := bi
      clear hbI hD
      go_wp2
      go_region_law (first
        | (refine step_append_textR rfl (.tmp 31) (.tmp 35) rfl w.heap.size _ s1 rfl hD3.hO w2.heap.size 1 rfl (.slice xa xn xc) hc2 P hx2 HLK.out (Nat.le_trans hgr2 (Nat.le_trans hsz2 hbA.size)) ?_; intro l5 w5 hO5 hb5 hg5; obtain ⟨a5, c5, rfl⟩ := hO5.val; obtain ⟨q5, f5, hD5⟩ := hD3.app hO5 hg5)
        | (go_simp; go_at_call 63; refine (HX.out _ (by first | exact Below.refl _ _ | exact (Below.refl _ _).drew)).mono ?_; rintro e w2 ⟨x1, rfl, hx1, hR⟩; obtain ⟨xa, xn, xc, rfl⟩ := hx1.val; have hsz2 : wr.heap.size ≤ w2.heap.size := hR.2.size; have hD2 := DecS.read (HDk.out _ (by first | exact Below.refl _ _ | exact (Below.refl _ _).drew)) hR; have q7 : w2.cell? ⟨w7.heap.size, 5, none⟩ = some (.slice oa s1.length oc) := hD2.kR.cell 5; have hbA : Below w2.heap.size w2 (w2.alloc (.cells #[.slice xa xn xc] 25)) := (Below.refl _ _).alloc (Nat.le_refl _) _; have hD3 := hD2.below hbA; have q8 : (w2.alloc (.cells #[.slice xa xn xc] 25)).cell? ⟨w7.heap.size, 5, none⟩ = some (.slice oa s1.length oc) := hD3.kR.cell 5; have hx2 := hx1.below hbA (Nat.le_refl _); have hc2 := (Blk.new w2 25 #[.slice xa xn xc]).cell 0))
      all_goals go_wp2
      all_goals go_roundw
      all_goals first
        | exact ⟨k + 1, _, by go_num, by omega, by rw [HST.out, HBI.out]; have hD6 := hD5; rw [List.length_append, List.length_singleton] at hD6; exact hD6⟩
        | (simp [intOf]; omega)
    · obtain rfl : k = N := by omega
      have hkI : ¬ (k : Int) < (k : Int) := by omega
      rw [← HD6.out] at hD
      obtain ⟨oa, oc, rfl⟩ := hD.hO.val
      have hRV : RecV wr (.agg #[.int .i64 (d1 bs).1, .int .i64 (d2 bs).1, .slice ta tn tc, .int .i64 (d4 size bs).1, .slice la lcn lc, .slice oa (d6 size bs).1.length oc]) (d1 bs).1 (d2 bs).1 (d3 size bs).1 (d4 size bs).1 (d5 size bs).1 (d6 size bs).1 := ⟨_, _, _, rfl, hD.ht, hD.hl, hD.hO.sls⟩
      have HENC := Lib.hid (enc_any size _ _ _ _ _ _ _ wr hz0 hz1 hRV (HTT.out.below hD.hb))
      obtain ⟨c0, c1, c2, c3, c4, c5⟩ := rec6 hD.kR
      have HD := Lib.hid hD
      have HRV := Lib.hid hRV
      have HIB := Lib.hid (cont_isB size bs HB.out)
      have HDO := Lib.hid (decOk_iff size bs)
      clear hRV hD HD6 hLN hr3 hr4 hr5 hr6 hr7 ht5 hl7
      generalize codeE size (d1 bs).1 (d2 bs).1 (d3 size bs).1 (d4 size bs).1 (d5 size bs).1 (d6 size bs).1 = cE at *
      generalize contE size (d1 bs).1 (d2 bs).1 (d3 size bs).1 (d4 size bs).1 (d5 size bs).1 (d6 size bs).1 = bE at *
      go_wp2_with fail
      refine HENC.out.mono ?_
      rintro e w9 ⟨xE, rfl, hxE, hb9⟩
      have HD9 := Lib.hid (HD.out.below hb9)
      have HCE := Lib.hid (crend_any g _ _ w9 HD9.out.hr)
      obtain ⟨c0, c1, c2, c3, c4, c5⟩ := rec6 HD9.out.kR
      obtain ⟨z0, z1, z2, z3, z4, z5⟩ := rec6 HD9.out.kZ
      obtain ⟨f0, f1, f2, f3, f4, f5⟩ := rec6f HD9.out.kZ
      have hs9 := HSS.out.below (HD9.out.hb) (Nat.le_refl _)
      have HEQ := Lib.hid (bytesEq_any xE _ bE bs w9 hxE hs9 HIB.out HB.out)
      clear HENC hb9
      generalize endI (d6 size bs).2.2 (d6 size bs).2.1 = eE at *
      by_cases h1 : eE = 0
      · have h1' : (eE != 0) = false := by simpa using h1
        by_cases h2 : cE = 0
        · have h2' : (cE != 0) = false := by simpa using h2
          by_cases h3 : bE = bs
          · rw [decide_eq_true h3] at HEQ
            have HOK := Lib.hid (HDO.out.2 ⟨h1, h2, h3⟩)
            clear h1 h2 h3 HDO
            go_wp2_with fail
            refine HCE.out.mono ?_
            rintro e w10 ⟨rfl, rfl⟩
            go_wp2_with fail
            refine HEQ.out.mono ?_
            rintro e w10 ⟨rfl, rfl⟩
            go_wp2
            exact bodyPost_ret (by rw [results_cell_tmp rfl]; go_simp; exact rfl) rfl ⟨_, by rw [show decC size bs = 0 from by unfold decC; rw [if_pos HOK.out]], fun _ => (HD9.out.stored (sixSet _ _ _ _ _ _)).1, fun h => absurd HOK.out h, (HD9.out.stored (sixSet _ _ _ _ _ _)).2⟩
          · rw [decide_eq_false h3] at HEQ
            have HNO := Lib.hid (fun h => h3 (HDO.out.1 h).2.2)
            clear h1 h2 h3 HDO
            go_wp2_with fail
            refine HCE.out.mono ?_
            rintro e w10 ⟨rfl, rfl⟩
            go_wp2_with fail
            refine HEQ.out.mono ?_
            rintro e w10 ⟨rfl, rfl⟩
            go_wp2
            exact bodyPost_ret (by rw [results_cell_tmp rfl]; go_simp; exact rfl) rfl ⟨_, by rw [show decC size bs = 5 from by unfold decC; rw [if_neg HNO.out]], fun h => absurd h HNO.out, fun _ => rfl, (HD9.out.stored (sixSet _ _ _ _ _ _)).2⟩
        · have h2' : (cE != 0) = true := by simpa using h2
          have HNO := Lib.hid (fun h => h2 (HDO.out.1 h).2.1)
          clear h1 h2 HDO
          go_wp2_with fail
          refine HCE.out.mono ?_
          rintro e w10 ⟨rfl, rfl⟩
          go_wp2
          exact bodyPost_ret (by rw [results_cell_tmp rfl]; go_simp; exact rfl) rfl ⟨_, by rw [show decC size bs = 5 from by unfold decC; rw [if_neg HNO.out]], fun h => absurd h HNO.out, fun _ => rfl, (HD9.out.stored (sixSet _ _ _ _ _ _)).2⟩
      · have h1' : (eE != 0) = true := by simpa using h1
        have HNO := Lib.hid (fun h => h1 (HDO.out.1 h).1)
        clear h1 HDO
        go_wp2_with fail
        refine HCE.out.mono ?_
        rintro e w10 ⟨rfl, rfl⟩
        go_wp2
        exact bodyPost_ret (by rw [results_cell_tmp rfl]; go_simp; exact rfl) rfl ⟨_, by rw [show decC size bs = 5 from by unfold decC; rw [if_neg HNO.out]], fun h => absurd h HNO.out, fun _ => rfl, (HD9.out.stored (sixSet _ _ _ _ _ _)).2⟩

end Go.Proofs.YtjhannlioddkkaaDoor

namespace Go.Proofs.YtjhannlioddkkaaDoor
open Go.RowKit
set_option linter.unusedVariables false

/-- Block g is a reader of the reference's: what is left, its first error. -/
def RRd (w : World) (g : Nat) (bs : List Int) (e : Int) : Prop := ∃ v, Blk w g 91 #[v, .int .i64 e] ∧ Sl w v (bs.map (Value.int .u8))
def RRdAt (w w' : World) (g : Nat) (bs : List Int) (e : Int) : Prop := RRd w' g bs e ∧ w.grownBy w' (some g)

theorem RRd.val {w : World} {g : Nat} {bs : List Int} {e : Int} (h : RRd w g bs e) : ∃ a c, Blk w g 91 #[.slice a bs.length c, .int .i64 e] ∧ Sl w (.slice a bs.length c) (bs.map (Value.int .u8)) := by
  obtain ⟨v, h1, h2⟩ := h
  obtain ⟨a, c, rfl, _, _⟩ := h2.shape
  rw [List.length_map] at *
  exact ⟨a, c, h1, h2⟩
theorem rrd_noB (v : Value) (hv : ∃ a n c, v = .slice a n c) (e : Int) : ∀ (j : Nat) (n : Int), (#[v, .int .i64 e] : Array Value)[j]? ≠ some (.int .u8 n) := by
  obtain ⟨a, m, c, rfl⟩ := hv
  intro j n h
  match j, h with
  | 0, h => simp at h
  | 1, h => simp at h
  | j + 2, h => simp at h

set_option maxHeartbeats 400000 in
theorem rfail_skip (g : Nat) (v : Value) (e0 er : Int) (w : World) (he : ¬ e0 = 0) (h : Blk w g 91 #[v, .int .i64 e0]) :
    Calls Tryd.prog 90 #[.pointer (some ⟨g, 0, none⟩), .int .i64 er] w fun e w' => e = .returned (.tuple #[]) ∧ w = w' := by
  have q1 : w.cell? ⟨g, 1, none⟩ = some (.int .i64 e0) := h.cell 1
  clear h
  go_enter Tryd.func90, Tryd.ntmps90
  go_wp2
  go_end0
  exact ⟨rfl, rfl⟩

set_option maxHeartbeats 400000 in
theorem rfail_set (g : Nat) (v : Value) (er : Int) (w : World) (h : Blk w g 91 #[v, .int .i64 0]) :
    Calls Tryd.prog 90 #[.pointer (some ⟨g, 0, none⟩), .int .i64 er] w fun e w' => e = .returned (.tuple #[]) ∧ RRdAt w w' g [] er := by
  have q1 : w.cell? ⟨g, 1, none⟩ = some (.int .i64 0) := h.cell 1
  have q0 : w.cell? ⟨g, 0, none⟩ = some v := h.cell 0
  have f1 := h.frozen 1
  have f0 := h.frozen 0
  have hk := (h.set_ 1 (.int .i64 er)).set_ 0 (.slice none 0 0)
  have hg : w.grownBy ((w.setCell ⟨g, 1, none⟩ (.int .i64 er)).setCell ⟨g, 0, none⟩ (.slice none 0 0)) (some g) :=
    only_setCell (p := ⟨g, 0, none⟩) (only_setCell (p := ⟨g, 1, none⟩) (World.grownBy.refl w (some g)) (Or.inl rfl) (.int .i64 er)) (Or.inl rfl) (.slice none 0 0)
  have HK := Lib.hid hk
  have HG := Lib.hid hg
  clear h hk hg
  go_enter Tryd.func90, Tryd.ntmps90
  go_wp2
  go_end0
  exact ⟨rfl, ⟨_, HK.out, Sl.nil _⟩, HG.out⟩

set_option maxHeartbeats 1000000 in
theorem refTake_err (g : Nat) (bs : List Int) (er : Int) (n : Int) (w : World) (he : ¬ er = 0) (h : RRd w g bs er) :
    Calls Tryd.prog 50 #[.pointer (some ⟨g, 0, none⟩), .int .i64 n] w fun e w' => e = .returned (.slice none 0 0) ∧ w = w' := by
  obtain ⟨a, c, hk, hs⟩ := h.val
  have q0 : w.cell? ⟨g, 0, none⟩ = some (.slice a bs.length c) := hk.cell 0
  have q1 : w.cell? ⟨g, 1, none⟩ = some (.int .i64 er) := hk.cell 1
  have HF := Lib.hid (rfail_skip g _ er 3 w he hk)
  clear hk h hs
  by_cases hn : (bs.length : Int) < n
  · go_enter Tryd.func50, Tryd.ntmps50
    go_wp2_with fail
    refine HF.out.mono ?_
    rintro e w1 ⟨rfl, rfl⟩
    go_wp2
    go_ret
    exact ⟨rfl, rfl⟩
  · go_enter Tryd.func50, Tryd.ntmps50
    go_wp2
    go_ret
    exact ⟨rfl, rfl⟩

set_option maxHeartbeats 1000000 in
theorem refTake_short (g : Nat) (bs : List Int) (n : Nat) (w : World) (hn : bs.length < n) (h : RRd w g bs 0) :
    Calls Tryd.prog 50 #[.pointer (some ⟨g, 0, none⟩), .int .i64 n] w fun e w' => e = .returned (.slice none 0 0) ∧ RRdAt w w' g [] 3 := by
  obtain ⟨a, c, hk, hs⟩ := h.val
  have q0 : w.cell? ⟨g, 0, none⟩ = some (.slice a bs.length c) := hk.cell 0
  have HF := Lib.hid (rfail_set g _ 3 w hk)
  have hI : (bs.length : Int) < (n : Int) := by omega
  clear hk h hs hn
  go_enter Tryd.func50, Tryd.ntmps50
  go_wp2_with fail
  refine HF.out.mono ?_
  rintro e w1 ⟨rfl, ⟨v1, hk1, hs1⟩, hg1⟩
  have q1 : w1.cell? ⟨g, 1, none⟩ = some (.int .i64 3) := hk1.cell 1
  have HR := Lib.hid (show RRdAt w w1 g [] 3 from ⟨⟨v1, hk1, hs1⟩, hg1⟩)
  clear hk1 hs1 hg1
  go_wp2
  go_ret
  exact ⟨rfl, HR.out⟩

theorem info8r : (Tryd.prog.info? 5).map (fun i => (i.zero, i.size, i.bytes)) = some (some (.int .u8 0), 1, 1) := by kernel_rfl

set_option maxHeartbeats 1000000 in
theorem refTake_ok (g : Nat) (bs : List Int) (n : Nat) (w : World) (hn : n ≤ bs.length) (hm : n ≤ 140737488351232) (h : RRd w g bs 0) :
    Calls Tryd.prog 50 #[.pointer (some ⟨g, 0, none⟩), .int .i64 n] w fun e w' => ∃ x, e = .returned x ∧ Sl w' x ((bs.take n).map (Value.int .u8)) ∧ RRdAt w w' g (bs.drop n) 0 := by
  obtain ⟨a, c, hk, hs⟩ := h.val
  have hgl := hk.lt
  have q0 : w.cell? ⟨g, 0, none⟩ = some (.slice a bs.length c) := hk.cell 0
  have q1 : w.cell? ⟨g, 1, none⟩ = some (.int .i64 0) := hk.cell 1
  have HK := Lib.hid hk
  have hI : ¬ (bs.length : Int) < (n : Int) := by omega
  have hI2 : (n : Int) ≤ (c : Int) := by have := hs.len; omega
  have hI3 : (0 : Int) ≤ (n : Int) := by omega
  have HNN := Lib.hid hn
  have HMM := Lib.hid (show (bs.take n).length ≤ 140737488351232 by rw [List.length_take]; omega)
  obtain ⟨i0, hi, hz0, hz1, hz2⟩ := info_parts info8r
  have hb0 : Below w.heap.size w (w.alloc (.cells #[] 5)) := (Below.refl _ _).alloc (Nat.le_refl _) _
  have hown0 : (w.alloc (.cells #[] 5)).ownsRow w.heap.size 5 1 (.slice (some ⟨w.heap.size, 0, none⟩) 0 0) 0 [] :=
    World.ownsRow_lit (base := w.heap.size) (e := 5) (size := 1) w #[] 0 (Nat.le_refl _) (by simp [maxLen]) (by simp)
  have hst := (hs.take n (by simpa using hn)).below hb0 (Nat.le_refl _)
  rw [← List.map_take] at hst
  have hq0 : (w.alloc (.cells #[] 5)).cell? ⟨g, 0, none⟩ = some (.slice a bs.length c) := (hb0.cell (p := ⟨g, 0, none⟩) hgl).trans q0
  clear hk hn hm h
  go_enter Tryd.func50, Tryd.ntmps50
  go_wp2_with (at_builtin; go_loud (refine wpList_append_sl rfl _ _ 25 rfl w.heap.size 5 i0 (.int .u8 0) 1 Tryd.underlying25 hi hz0 hz1 hz2 rfl _ 0 [] rfl hown0 (.slice a n c) ((bs.take n).map (Value.int .u8)) rfl hst (one8 _) (by have := HMM.out; rw [List.length_map]; unfold maxLen; omega) (by have := HMM.out; rw [List.length_map]; omega) (by simp) ?_))
  intro xv w4 hown4 hg4
  have hb4 := below_grown hb0 hown0 (Nat.le_refl _) (by simp) hg4
  have hx : Sl w4 xv ((bs.take n).map (Value.int .u8)) := by simpa using Sl.of_owns hown4
  have hk4 : Blk w4 g 91 #[.slice a bs.length c, .int .i64 0] := HK.out.below hb4 hgl
  have hs4 := hs.below hb4 (Nat.le_refl _)
  have HB4 := Lib.hid hb4
  have q0 : w4.cell? ⟨g, 0, none⟩ = some (.slice a bs.length c) := hk4.cell 0
  have f0 := hk4.frozen 0
  have HK4 := Lib.hid hk4
  have HX := Lib.hid hx
  obtain ⟨xa, xn, xc, rfl⟩ := hx.val
  clear hown4 hg4 hb4 hb0 hown0 hst hq0 hs hk4 hx
  go_wp2_with (refine wpList_from rfl _ _ 25 5 rfl Tryd.underlying25 size8 _ n _ rfl hs4 rfl (by simpa using HNN.out) ?_)
  intro ad2 c2 hs2
  rw [← List.map_drop] at hs2
  have hg1 : w4.grownBy (w4.setCell ⟨g, 0, none⟩ (.slice ad2 (bs.length - n) c2)) (some g) := only_setCell (p := ⟨g, 0, none⟩) (World.grownBy.refl w4 (some g)) (Or.inl rfl) _
  have hk1 := HK4.out.set_ 0 (.slice ad2 (bs.length - n) c2)
  have HX1 := Lib.hid (HX.out.keepG HK4.out (rrd_noB _ ⟨_, _, _, rfl⟩ _) hg1)
  have hs2' := hs2.keepG HK4.out (rrd_noB _ ⟨_, _, _, rfl⟩ _) hg1
  have HR := Lib.hid (show RRdAt w (w4.setCell ⟨g, 0, none⟩ (.slice ad2 (bs.length - n) c2)) g (bs.drop n) 0 from ⟨⟨_, hk1, hs2'⟩, (only_of_below HB4.out (some g)).trans hg1⟩)
  clear hg1 hk1 hs2' hs2 hs4
  go_wp2
  go_ret
  exact ⟨_, rfl, HX1.out, HR.out⟩

end Go.Proofs.YtjhannlioddkkaaDoor

namespace Go.Proofs.YtjhannlioddkkaaDoor
open Go.RowKit
set_option linter.unusedVariables false

set_option maxHeartbeats 1000000 in
theorem refUint_err (g : Nat) (bs : List Int) (er most : Int) (w : World) (he : ¬ er = 0) (h : RRd w g bs er) :
    Calls Tryd.prog 49 #[.pointer (some ⟨g, 0, none⟩), .int .i64 most] w fun e w' => e = .returned (.int .i64 0) ∧ w = w' := by
  have HT := Lib.hid (refTake_err g bs er 1 w he h)
  clear he h
  go_enter Tryd.func49, Tryd.ntmps49
  go_wp2_with fail
  refine HT.out.mono ?_
  rintro e w1 ⟨rfl, rfl⟩
  go_wp2
  go_ret
  exact ⟨rfl, rfl⟩

set_option maxHeartbeats 1000000 in
theorem refUint_nil (g : Nat) (most : Int) (w : World) (h : RRd w g [] 0) :
    Calls Tryd.prog 49 #[.pointer (some ⟨g, 0, none⟩), .int .i64 most] w fun e w' => e = .returned (.int .i64 0) ∧ RRdAt w w' g [] 3 := by
  have HT := Lib.hid (refTake_short g [] 1 w (by decide) h)
  clear h
  go_enter Tryd.func49, Tryd.ntmps49
  go_wp2_with fail
  refine HT.out.mono ?_
  rintro e w1 ⟨rfl, hr⟩
  go_wp2
  go_ret
  exact ⟨rfl, hr⟩

set_option maxHeartbeats 2000000 in
theorem refUint_wide (g : Nat) (hd : Int) (r : List Int) (most : Int) (w : World) (h8 : 8 < hd) (hd2 : hd ≤ 255) (hl : r.length ≤ 140737488351232) (h : RRd w g (hd :: r) 0) :
    Calls Tryd.prog 49 #[.pointer (some ⟨g, 0, none⟩), .int .i64 most] w fun e w' => e = .returned (.int .i64 0) ∧ RRdAt w w' g [] 5 := by
  have HT := Lib.hid (refTake_ok g (hd :: r) 1 w (by simp) (by decide) h)
  have hH : 0 ≤ hd ∧ hd ≤ 255 := by omega
  clear h hl hd2
  go_enter Tryd.func49, Tryd.ntmps49
  go_wp2_with fail
  refine HT.out.mono ?_
  rintro e w1 ⟨x, rfl, hx, ⟨v, hk, hsv⟩, hg⟩
  simp only [List.take_succ_cons, List.take_zero] at hx
  obtain ⟨a, c, rfl, hc, hm⟩ := hx.shape
  obtain ⟨b, off, rfl, hlt, hcell⟩ := hx.addr (by simp)
  have q0 : w1.cell? ⟨b, off, none⟩ = some (.int .u8 hd) := by have := hcell 0 (.int .u8 hd) (by simp); simpa using this
  have HF := Lib.hid (rfail_set g _ 5 w1 hk)
  have HG := Lib.hid hg
  have HX := Lib.hid (fun w2 (hg2 : w1.grownBy w2 (some g)) => hx.keepG hk (rrd_noB v hsv.val 0) hg2)
  simp only [List.map_cons, List.map_nil, List.length_cons, List.length_nil, Nat.zero_add] at *
  clear hcell hx hk hg hsv
  go_wp2_with fail
  refine HF.out.mono ?_
  rintro e w2 ⟨rfl, hr2, hg2⟩
  have hx2 := HX.out w2 hg2
  obtain ⟨b', off', heq, _, hcell⟩ := hx2.addr (by simp)
  cases heq
  have q0 : w2.cell? ⟨b, off, none⟩ = some (.int .u8 hd) := by have := hcell 0 (.int .u8 hd) (by simp); simpa using this
  have HT2 := Lib.hid (fun n => refTake_err g [] 5 n w2 (by decide) hr2)
  have HR := Lib.hid (show RRdAt w w2 g [] 5 from ⟨hr2, HG.out.trans hg2⟩)
  obtain ⟨v2, hk2, _⟩ := hr2
  have HS5 := Lib.hid (rfail_skip g _ 5 5 w2 (by decide) hk2)
  have HS4 := Lib.hid (rfail_skip g _ 5 4 w2 (by decide) hk2)
  have e1 : w2.cell? ⟨g, 1, none⟩ = some (.int .i64 5) := hk2.cell 1
  clear hx2 hcell hg2 hk2 HX HF
  go_wp2_with fail
  refine (HT2.out _).mono ?_
  rintro e w3 ⟨rfl, rfl⟩
  go_wp2
  go_loopw [7, 30] (fun n i wr => n = .int .u64 0 ∧ i = .int .i64 0 ∧ w2 = wr) (fun _ _ _ => 0)
  case atStart => exact ⟨rfl, rfl, rfl⟩
  case round =>
    obtain ⟨rfl, rfl, rfl⟩ := hrel
    by_cases hmo : most < 0
    · go_wp2_with fail
      refine HS4.out.mono ?_
      rintro e w4 ⟨rfl, rfl⟩
      go_wp2
      go_ret
      exact ⟨rfl, HR.out⟩
    · have hmo : ¬ 0 > most := by omega
      go_wp2
      go_ret
      exact ⟨rfl, HR.out⟩

set_option maxHeartbeats 2000000 in
theorem refUint_cut (g : Nat) (hd : Int) (r : List Int) (most : Int) (w : World) (h0 : 0 ≤ hd) (h8 : ¬ 8 < hd) (hs : r.length < hd.toNat) (h : RRd w g (hd :: r) 0) :
    Calls Tryd.prog 49 #[.pointer (some ⟨g, 0, none⟩), .int .i64 most] w fun e w' => e = .returned (.int .i64 0) ∧ RRdAt w w' g [] 3 := by
  have HT := Lib.hid (refTake_ok g (hd :: r) 1 w (by simp) (by decide) h)
  obtain ⟨N, rfl⟩ : ∃ N : Nat, hd = N := ⟨hd.toNat, by omega⟩
  have hsN : r.length < N := by omega
  have hN8 : (N : Int) % 9 = N := by omega
  have hN9 : Int.tmod (N : Int) 9 = N := by rw [Int.tmod_eq_emod_of_nonneg (by omega)]; omega
  clear h h0 hs
  go_enter Tryd.func49, Tryd.ntmps49
  go_wp2_with fail
  refine HT.out.mono ?_
  rintro e w1 ⟨x, rfl, hx, hr1, hg⟩
  simp only [List.take_succ_cons, List.take_zero, List.drop_succ_cons, List.drop_zero] at hx hr1
  obtain ⟨a, c, rfl, hc, hm⟩ := hx.shape
  obtain ⟨b, off, rfl, hlt, hcell⟩ := hx.addr (by simp)
  have q0 : w1.cell? ⟨b, off, none⟩ = some (.int .u8 N) := by have := hcell 0 (.int .u8 N) (by simp); simpa using this
  have HS := Lib.hid (refTake_short g r N w1 hsN hr1)
  have HG := Lib.hid hg
  simp only [List.map_cons, List.map_nil, List.length_cons, List.length_nil, Nat.zero_add] at *
  clear hcell hx hg hr1 hsN
  go_wp2_with fail
  refine HS.out.mono ?_
  rintro e w2 ⟨rfl, hr2, hg2⟩
  have HR := Lib.hid (show RRdAt w w2 g [] 3 from ⟨hr2, HG.out.trans hg2⟩)
  obtain ⟨v2, hk2, _⟩ := hr2
  have HS4 := Lib.hid (rfail_skip g _ 3 4 w2 (by decide) hk2)
  have e1 : w2.cell? ⟨g, 1, none⟩ = some (.int .i64 3) := hk2.cell 1
  clear hk2 hg2 q0
  go_wp2
  go_loopw [7, 30] (fun n i wr => n = .int .u64 0 ∧ i = .int .i64 0 ∧ w2 = wr) (fun _ _ _ => 0)
  case atStart => exact ⟨rfl, rfl, rfl⟩
  case round =>
    obtain ⟨rfl, rfl, rfl⟩ := hrel
    by_cases hmo : most < 0
    · go_wp2_with fail
      refine HS4.out.mono ?_
      rintro e w4 ⟨rfl, rfl⟩
      go_wp2
      go_ret
      exact ⟨rfl, HR.out⟩
    · have hmo : ¬ 0 > most := by omega
      go_wp2
      go_ret
      exact ⟨rfl, HR.out⟩

set_option maxHeartbeats 4000000 in
theorem refUint_read (g : Nat) (hd : Int) (r : List Int) (most : Int) (w : World) (h0 : 0 ≤ hd) (h8 : ¬ 8 < hd) (hs : ¬ r.length < hd.toNat) (hl : r.length ≤ 140737488351232) (hB : IsB r) (h : RRd w g (hd :: r) 0) :
    Calls Tryd.prog 49 #[.pointer (some ⟨g, 0, none⟩), .int .i64 most] w fun e w' => e = .returned (.int .i64 (uI most (hd :: r) 0).1) ∧ RRdAt w w' g (uI most (hd :: r) 0).2.1 (uI most (hd :: r) 0).2.2 := by
  have HT := Lib.hid (refTake_ok g (hd :: r) 1 w (by simp) (by decide) h)
  have HU1 := Lib.hid (uI_form most hd r h8 hs)
  have HU2 := Lib.hid (uI_full most hd r h8 hs)
  have HU3 := Lib.hid (uI_ok most hd r h8 hs)
  generalize uI most (hd :: r) 0 = U at *
  obtain ⟨N, rfl⟩ : ∃ N : Nat, hd = N := ⟨hd.toNat, by omega⟩
  have hsN : N ≤ r.length := by omega
  have hN8 : (N : Int) % 9 = N := by omega
  have hN9 : Int.tmod (N : Int) 9 = N := by rw [Int.tmod_eq_emod_of_nonneg (by omega)]; omega
  have hI : ¬ 8 < (N : Int) := by omega
  rw [show (N : Int).toNat = N by omega] at HU1 HU2 HU3
  have HL := Lib.hid (show (r.take N).length = N by rw [List.length_take]; omega)
  have HX := Lib.hid (show 0 < N → (r.take N).getD 0 0 = r.getD 0 0 from fun hp => by
    rw [List.getD_eq_getElem?_getD, List.getD_eq_getElem?_getD, List.getElem?_take, if_pos hp])
  have HBL := Lib.hid (show IsB (r.take N) from fun x hx => hB x (List.mem_of_mem_take hx))
  have HW := Lib.hid (show r.length ≤ 140737488351232 by omega)
  have HI8 := Lib.hid (show N ≤ 8 by omega)
  clear h h0 hs hB h8 hl
  go_enter Tryd.func49, Tryd.ntmps49
  go_wp2_with fail
  refine HT.out.mono ?_
  rintro e w1 ⟨x, rfl, hx, hr1, hg⟩
  simp only [List.take_succ_cons, List.take_zero, List.drop_succ_cons, List.drop_zero] at hx hr1
  obtain ⟨a, c, rfl, hc, hm⟩ := hx.shape
  obtain ⟨b, off, rfl, hlt, hcell⟩ := hx.addr (by simp)
  have q0 : w1.cell? ⟨b, off, none⟩ = some (.int .u8 N) := by have := hcell 0 (.int .u8 N) (by simp); simpa using this
  have HS := Lib.hid (refTake_ok g r N w1 hsN (Nat.le_trans HI8.out (by decide)) hr1)
  have HG := Lib.hid hg
  simp only [List.map_cons, List.map_nil, List.length_cons, List.length_nil, Nat.zero_add] at *
  clear hcell hx hg hr1 hsN
  go_wp2_with fail
  refine HS.out.mono ?_
  rintro e w2 ⟨lv, rfl, hlv, hr2, hg2⟩
  have HG := Lib.hid (HG.out.trans hg2)
  clear HS HT q0 hg2
  obtain ⟨v2, hk2, hv2⟩ := id hr2
  have HF5 := Lib.hid (rfail_set g v2 5 w2 hk2)
  have HF4 := Lib.hid (rfail_set g v2 4 w2 hk2)
  have HR2 := Lib.hid hr2
  have e1 : w2.cell? ⟨g, 1, none⟩ = some (.int .i64 0) := hk2.cell 1
  have HK := Lib.hid (fun w3 (hg3 : w2.grownBy w3 (some g)) (u : Value) (zs : List Int) (hu : Sl w2 u (zs.map (Value.int .u8))) => hu.keepG hk2 (rrd_noB v2 hv2.val 0) hg3)
  clear hk2 hv2 hr2
  generalize r.take N = L at *
  obtain ⟨la, lc, rfl, hlc, hlm⟩ := hlv.shape
  rw [List.length_map] at hlc hlv
  rw [List.length_map]
  rw [HL.out] at hlc hlv
  rw [HL.out]
  have step : ∀ k, k < N → Hid (beN (L.take (k + 1)) = beN (L.take k) * 256 + L.getD k 0 ∧ (0 ≤ L.getD k 0 ∧ L.getD k 0 ≤ 255) ∧ 0 ≤ beN (L.take k) ∧ beN (L.take k) < 72057594037927936) := fun k hlt => by
    have hyb := HBL.out (L.getD k 0) (by rw [List.getD_eq_getElem?_getD, List.getElem?_eq_getElem (by rw [HL.out]; exact hlt)]; exact List.getElem_mem _)
    have hbn := beN_pos (L.take k) (fun x hx => HBL.out x (List.mem_of_mem_take hx))
    refine ⟨beN_take L k (by rw [HL.out]; exact hlt), hyb, hbn.1, Int.lt_of_lt_of_le hbn.2 ?_⟩
    have h1 : (L.take k).length ≤ 7 := by rw [List.length_take, HL.out]; have := HI8.out; omega
    have h2 : (256 : Nat) ^ (L.take k).length ≤ 256 ^ 7 := Nat.pow_le_pow_right (by decide) h1
    have h3 : (256 : Int) ^ (L.take k).length = ((256 ^ (L.take k).length : Nat) : Int) := by simp
    rw [h3]; omega
  have STEP := Lib.hid step
  clear step
  have hbn := (beN_pos L HBL.out).1
  have hbm : beN L < 18446744073709551616 := by
    refine Int.lt_of_lt_of_le (beN_pos L HBL.out).2 ?_
    have h1 : L.length ≤ 8 := by rw [HL.out]; exact HI8.out
    have h2 : (256 : Nat) ^ L.length ≤ 256 ^ 8 := Nat.pow_le_pow_right (by decide) h1
    have h3 : (256 : Int) ^ L.length = ((256 ^ L.length : Nat) : Int) := by simp
    rw [h3]; omega
  have HLN := Lib.hid (show L.take N = L from List.take_of_length_le (by rw [HL.out]; exact Nat.le_refl _))
  have HWR : Hid (beN L ≤ 4611686018427387904 → IntKind.i64.wrap (beN L) = beN L) := fun h => by rw [IntKind.wrap_i64]; omega
  have HBB := Lib.hid (And.intro hbn hbm)
  clear hbn hbm
  by_cases hbad : 0 < N ∧ r.getD 0 0 = 0
  · have hL0 : L.getD 0 0 = 0 := by rw [HX.out hbad.1]; exact hbad.2
    have HL0 := Lib.hid hL0
    have hNp : 0 < N := hbad.1
    have HNP := Lib.hid hNp
    have HU := Lib.hid (HU1.out (.inl hbad))
    clear hL0 hbad HU1 HU2 HU3 hNp
    go_wp2
    go_loopw [7, 30] (fun n i wr => ∃ k : Nat, k ≤ N ∧ i = .int .i64 k ∧ n = .int .u64 (beN (L.take k)) ∧ ((k = 0 ∧ w2 = wr) ∨ (0 < k ∧ RRdAt w2 wr g [] 5))) (fun _ i _ => N - (intOf i).toNat)
    case atStart => exact ⟨0, by omega, rfl, rfl, .inl ⟨rfl, rfl⟩⟩
    case round =>
      obtain ⟨k, hk, rfl, rfl, hst⟩ := hrel
      by_cases hlt : k < N
      · have hkI : (k : Int) < (N : Int) := by omega
        have HSK := Lib.hid (STEP.out k hlt).out
        rcases hst with ⟨rfl, rfl⟩ | ⟨hkp, hrw⟩
        · obtain ⟨b3, o3, rfl, hb3, hc3⟩ := hlv.ints (k := 0) (by rw [HL.out]; exact hlt)
          have hc3 := hc3 0 (by rw [HL.out]; exact hlt)
          rw [Nat.add_zero, HL0.out] at hc3
          rw [HL0.out] at HSK
          have HQ : Hid (IntKind.u64.wrap (IntKind.u64.wrap (beN (L.take 0) * 256) + 0) = beN (L.take (0 + 1))) := by
            have := HSK.out
            rw [this.1]
            show _ = _
            rw [IntKind.wrap_u64, IntKind.wrap_u64]; omega
          generalize beN (L.take 0) = B at *
          go_wp2_with fail
          refine HF5.out.mono ?_
          rintro e w3 ⟨rfl, hr3⟩
          go_wp2
          exact ⟨⟨1, by omega, rfl, by rw [show beN (L.take 1) = _ from HQ.out.symm, Int.add_zero], .inr ⟨by omega, hr3⟩⟩, by simp [intOf]; omega⟩
        · obtain ⟨b3, o3, rfl, hb3, hc3⟩ := (HK.out wr hrw.2 _ L hlv).ints (k := k) (by rw [HL.out]; exact hlt)
          have hc3 := hc3 k (by rw [HL.out]; exact hlt)
          have HQ : Hid (IntKind.u64.wrap (IntKind.u64.wrap (beN (L.take k) * 256) + L.getD k 0) = beN (L.take (k + 1))) := by
            have := HSK.out
            rw [this.1]
            show _ = _
            rw [IntKind.wrap_u64, IntKind.wrap_u64]; omega
          have HY : Hid (IntKind.u64.wrap (L.getD k 0) = L.getD k 0) := by have := HSK.out; show _ = _; rw [IntKind.wrap_u64]; omega
          generalize beN (L.take k) = B at *
          generalize L.getD k 0 = y at *
          have hkz : ¬ (k : Int) = 0 := by omega
          clear hlv
          go_wp2
          exact ⟨⟨k + 1, by omega, by go_num, by rw [HY.out, HQ.out], .inr ⟨by omega, hrw⟩⟩, by simp [intOf]; omega⟩
      · obtain rfl : k = N := by omega
        have hkI : ¬ (k : Int) < (k : Int) := by omega
        rcases hst with ⟨rfl, _⟩ | ⟨hkp, hrw⟩
        · exact absurd HNP.out (by omega)
        · rw [HLN.out]
          have HR := Lib.hid (show RRdAt w wr g [] 5 from ⟨hrw.1, HG.out.trans hrw.2⟩)
          obtain ⟨⟨v3, hk3, _⟩, _⟩ := hrw
          have e1 : wr.cell? ⟨g, 1, none⟩ = some (.int .i64 5) := hk3.cell 1
          have HS5 := Lib.hid (rfail_skip g _ 5 5 wr (by decide) hk3)
          have HS4 := Lib.hid (rfail_skip g _ 5 4 wr (by decide) hk3)
          generalize beN L = B at *
          clear hk3 hlv HF5 HF4
          by_cases hbig : 4611686018427387904 < B
          · by_cases hmo : most < wrap64 B
            · go_wp2_with fail
              refine HS5.out.mono ?_
              rintro e w4 ⟨rfl, rfl⟩
              go_wp2_with fail
              refine HS4.out.mono ?_
              rintro e w4 ⟨rfl, rfl⟩
              go_wp2
              go_ret
              rw [HU.out]
              exact ⟨rfl, HR.out⟩
            · go_wp2_with fail
              refine HS5.out.mono ?_
              rintro e w4 ⟨rfl, rfl⟩
              go_wp2
              go_ret
              rw [HU.out]
              exact ⟨rfl, HR.out⟩
          · have hwr := HWR.out (by omega)
            have hbig : ¬ B > 4611686018427387904 := by omega
            by_cases hmo : most < B
            · go_wp2_with fail
              refine HS4.out.mono ?_
              rintro e w4 ⟨rfl, rfl⟩
              go_wp2
              go_ret
              rw [HU.out]
              exact ⟨rfl, HR.out⟩
            · go_wp2
              go_ret
              rw [HU.out]
              exact ⟨rfl, HR.out⟩
  · have HB0 := Lib.hid hbad
    clear hbad
    go_wp2
    go_loopw [7, 30] (fun n i wr => ∃ k : Nat, k ≤ N ∧ i = .int .i64 k ∧ n = .int .u64 (beN (L.take k)) ∧ w2 = wr) (fun _ i _ => N - (intOf i).toNat)
    case atStart => exact ⟨0, by omega, rfl, rfl, rfl⟩
    case round =>
      obtain ⟨k, hk, rfl, rfl, rfl⟩ := hrel
      by_cases hlt : k < N
      · have hkI : (k : Int) < (N : Int) := by omega
        have HSK := Lib.hid (STEP.out k hlt).out
        obtain ⟨b3, o3, rfl, hb3, hc3⟩ := hlv.ints (k := k) (by rw [HL.out]; exact hlt)
        have hc3 := hc3 k (by rw [HL.out]; exact hlt)
        have HQ : Hid (IntKind.u64.wrap (IntKind.u64.wrap (beN (L.take k) * 256) + L.getD k 0) = beN (L.take (k + 1))) := by
          have := HSK.out
          rw [this.1]
          show _ = _
          rw [IntKind.wrap_u64, IntKind.wrap_u64]; omega
        have HY : Hid (IntKind.u64.wrap (L.getD k 0) = L.getD k 0) := by have := HSK.out; show _ = _; rw [IntKind.wrap_u64]; omega
        by_cases hk0 : k = 0
        · subst hk0
          have hy0 : ¬ L.getD 0 0 = 0 := fun h => HB0.out ⟨hlt, by rw [← HX.out hlt]; exact h⟩
          rw [Nat.add_zero] at hc3
          generalize beN (L.take 0) = B at *
          generalize L.getD 0 0 = y at *
          go_wp2
          exact ⟨⟨1, by omega, rfl, by rw [HY.out, HQ.out], by first | rfl | trivial⟩, by simp [intOf]; omega⟩
        · generalize beN (L.take k) = B at *
          generalize L.getD k 0 = y at *
          have hkz : ¬ (k : Int) = 0 := by omega
          go_wp2
          exact ⟨⟨k + 1, by omega, by go_num, by rw [HY.out, HQ.out], by first | rfl | trivial⟩, by simp [intOf]; omega⟩
      · obtain rfl : k = N := by omega
        have hkI : ¬ (k : Int) < (k : Int) := by omega
        rw [HLN.out]
        have HN1 := Lib.hid (fun h => HU1.out (.inr h))
        have HN2 := Lib.hid (fun h1 => HU2.out (fun h => h.elim HB0.out h1))
        have HN3 := Lib.hid (fun h1 => HU3.out (fun h => h.elim HB0.out h1))
        generalize beN L = B at *
        clear hlv
        by_cases hbig : 4611686018427387904 < B
        · have HU := Lib.hid (HN1.out hbig)
          go_wp2_with fail
          refine HF5.out.mono ?_
          rintro e w3 ⟨rfl, hr3⟩
          have HR := Lib.hid (show RRdAt w w3 g [] 5 from ⟨hr3.1, HG.out.trans hr3.2⟩)
          obtain ⟨⟨v3, hk3, _⟩, _⟩ := hr3
          have e1 : w3.cell? ⟨g, 1, none⟩ = some (.int .i64 5) := hk3.cell 1
          have HS4 := Lib.hid (rfail_skip g _ 5 4 w3 (by decide) hk3)
          clear hk3 HF5 HF4
          by_cases hmo : most < wrap64 B
          · go_wp2_with fail
            refine HS4.out.mono ?_
            rintro e w4 ⟨rfl, rfl⟩
            go_wp2
            go_ret
            rw [HU.out]
            exact ⟨rfl, HR.out⟩
          · go_wp2
            go_ret
            rw [HU.out]
            exact ⟨rfl, HR.out⟩
        · have HU2 := Lib.hid (HN2.out hbig)
          have HU3 := Lib.hid (HN3.out hbig)
          have hbig : ¬ B > 4611686018427387904 := by omega
          have hB0 : 0 ≤ B := HBB.out.1
          by_cases hmo : most < B
          · have HU := Lib.hid (HU2.out hmo)
            go_wp2_with fail
            refine HF4.out.mono ?_
            rintro e w3 ⟨rfl, hr3⟩
            have HR := Lib.hid (show RRdAt w w3 g [] 4 from ⟨hr3.1, HG.out.trans hr3.2⟩)
            obtain ⟨⟨v3, hk3, _⟩, _⟩ := hr3
            have e1 : w3.cell? ⟨g, 1, none⟩ = some (.int .i64 4) := hk3.cell 1
            clear hk3 HF5 HF4
            go_wp2
            go_ret
            rw [HU.out]
            exact ⟨rfl, HR.out⟩
          · have HU := Lib.hid (HU3.out (by omega))
            go_wp2
            go_ret
            rw [HU.out]
            exact ⟨by first | rfl | simp, HR2.out, HG.out⟩

theorem RRdAt.same {w : World} {g : Nat} {bs : List Int} {e : Int} (h : RRd w g bs e) : RRdAt w w g bs e := ⟨h, World.grownBy.refl w (some g)⟩

theorem refRuint_any (g : Nat) (bs : List Int) (er most : Int) (w : World) (hB : IsB bs) (hl : bs.length ≤ 140737488351232) (h : RRd w g bs er) :
    Calls Tryd.prog 49 #[.pointer (some ⟨g, 0, none⟩), .int .i64 most] w fun e w' => e = .returned (.int .i64 (uI most bs er).1) ∧ RRdAt w w' g (uI most bs er).2.1 (uI most bs er).2.2 := by
  by_cases he : er = 0
  · subst he
    cases bs with
    | nil => rw [uI_nil]; exact refUint_nil g most w h
    | cons hd r =>
      have h0 := hB hd (by simp)
      have hl' : r.length ≤ 140737488351232 := by simp at hl; omega
      by_cases h8 : 8 < hd
      · rw [uI_wide most hd r h8]; exact refUint_wide g hd r most w h8 h0.2 hl' h
      · by_cases hs : r.length < hd.toNat
        · rw [uI_short most hd r h8 hs]; exact refUint_cut g hd r most w h0.1 h8 hs h
        · exact refUint_read g hd r most w h0.1 h8 hs hl' (fun x hx => hB x (by simp [hx])) h
  · rw [uI_err most bs er he]
    exact (refUint_err g bs er most w he h).mono fun e w' ⟨h1, h2⟩ => ⟨h1, by subst h2; exact RRdAt.same h⟩

end Go.Proofs.YtjhannlioddkkaaDoor

namespace Go.Proofs.YtjhannlioddkkaaDoor
open Go.RowKit
set_option linter.unusedVariables false

theorem dig_snoc0 (q : Nat) (x : Int) (hx : 0 ≤ x ∧ x ≤ 255) : dig ((q : Int) * 256 + x).toNat 0 = x := by
  unfold dig
  rw [Nat.pow_zero, Nat.div_one]; omega
theorem dig_snoc (q i : Nat) (x : Int) (hx : 0 ≤ x ∧ x ≤ 255) : dig ((q : Int) * 256 + x).toNat (i + 1) = dig q i := by
  unfold dig
  have e : ((q : Int) * 256 + x).toNat / 256 = q := by omega
  rw [Nat.pow_succ, Nat.mul_comm, ← Nat.div_div_eq_div_mul, e]

theorem beI_beN : ∀ (k : Nat) (L : List Int), L.length = k → IsB L → beI (beN L).toNat k k = L
  | 0, L, h, _ => by obtain rfl := List.length_eq_zero_iff.1 h; rfl
  | k + 1, L, h, hB => by
    have hl : L ≠ [] := by rintro rfl; simp at h
    obtain ⟨M, x, rfl⟩ : ∃ M x, L = M ++ [x] := ⟨L.dropLast, L.getLast hl, (List.dropLast_concat_getLast hl).symm⟩
    have hM : M.length = k := by simpa using h
    have hBM : IsB M := fun y hy => hB y (by simp [hy])
    have hx := hB x (by simp)
    obtain ⟨q, hq⟩ : ∃ q : Nat, beN M = q := ⟨(beN M).toNat, by have := (beN_pos M hBM).1; omega⟩
    have ih := beI_beN k M hM hBM
    rw [hq, Int.toNat_natCast] at ih
    rw [beN_snoc, hq]
    unfold beI at ih ⊢
    rw [List.range_succ, List.map_append, List.map_cons, List.map_nil]
    have e1 : k + 1 - 1 - k = 0 := by omega
    rw [e1, dig_snoc0 q x hx]
    congr 1
    have : ∀ t ∈ List.range k, dig ((q : Int) * 256 + x).toNat (k + 1 - 1 - t) = dig q (k - 1 - t) := fun t ht => by
      have ht : t < k := List.mem_range.1 ht
      rw [show k + 1 - 1 - t = (k - 1 - t) + 1 by omega, dig_snoc q _ x hx]
    rw [List.map_congr_left this, ih]

theorem beN_lead (L : List Int) (hB : IsB L) (hp : 0 < L.length) (h0 : ¬ L.getD 0 0 = 0) : (256 : Int) ^ (L.length - 1) ≤ beN L := by
  induction hn : L.length generalizing L with
  | zero => omega
  | succ n ih =>
    have hl : L ≠ [] := by rintro rfl; simp at hn
    obtain ⟨M, x, rfl⟩ : ∃ M x, L = M ++ [x] := ⟨L.dropLast, L.getLast hl, (List.dropLast_concat_getLast hl).symm⟩
    have hM : M.length = n := by simpa using hn
    have hBM : IsB M := fun y hy => hB y (by simp [hy])
    have hx := hB x (by simp)
    rw [beN_snoc]
    by_cases hn0 : n = 0
    · subst hn0
      obtain rfl := List.length_eq_zero_iff.1 hM
      simp at h0
      simp [beN]; omega
    · have := ih M hBM (by omega) (by
        rw [List.getD_eq_getElem?_getD, List.getElem?_append_left (by omega)] at h0
        rw [List.getD_eq_getElem?_getD]; exact h0) hM
      have e : (256 : Int) ^ (n + 1 - 1) = 256 ^ (n - 1) * 256 := by rw [← Int.pow_succ]; congr 1; omega
      rw [e]; omega

/-- A number that is read without an error is spelt as it would be written. -/
theorem uI_canon (most : Int) (bs : List Int) (hB : IsB bs) (h : (uI most bs 0).2.2 = 0) : bs = uintN (uI most bs 0).1.toNat ++ (uI most bs 0).2.1 := by
  cases bs with
  | nil => rw [uI_nil] at h; simp at h
  | cons hd r =>
    have hh := hB hd (by simp)
    by_cases h8 : 8 < hd
    · rw [uI_wide most hd r h8] at h; simp at h
    · by_cases hs : r.length < hd.toNat
      · rw [uI_short most hd r h8 hs] at h; simp at h
      · by_cases hf : (0 < hd.toNat ∧ r.getD 0 0 = 0) ∨ 4611686018427387904 < beN (r.take hd.toNat)
        · rw [uI_form most hd r h8 hs hf] at h; simp at h
        · by_cases hm : most < beN (r.take hd.toNat)
          · rw [uI_full most hd r h8 hs hf hm] at h; simp at h
          · rw [uI_ok most hd r h8 hs hf hm]
            simp only
            obtain ⟨k, rfl⟩ : ∃ k : Nat, hd = k := ⟨hd.toNat, by omega⟩
            rw [Int.toNat_natCast] at *
            have hL : (r.take k).length = k := by rw [List.length_take]; omega
            have hBL : IsB (r.take k) := fun x hx => hB x (by simp [List.mem_of_mem_take hx])
            have hp := beN_pos (r.take k) hBL
            obtain ⟨m, hm2⟩ : ∃ m : Nat, beN (r.take k) = m := ⟨(beN (r.take k)).toNat, by omega⟩
            have hlt : m < 256 ^ k := by
              have := hp.2
              rw [hm2, hL] at this
              have e : ((256 : Int) ^ k) = ((256 ^ k : Nat) : Int) := by simp
              rw [e] at this
              omega
            have hle : m ≤ 4611686018427387904 := by
              have : ¬ 4611686018427387904 < beN (r.take k) := fun q => hf (.inr q)
              omega
            have hw : width m = k := width_of k m hlt (by
              by_cases hk0 : k = 0
              · exact .inl hk0
              · right
                have h0 : ¬ (r.take k).getD 0 0 = 0 := fun q => hf (.inl ⟨by omega, by
                  rw [List.getD_eq_getElem?_getD, List.getElem?_take, if_pos (by omega), ← List.getD_eq_getElem?_getD] at q
                  exact q⟩)
                have := beN_lead (r.take k) hBL (by omega) h0
                rw [hm2, hL] at this
                have e : ((256 : Int) ^ (k - 1)) = ((256 ^ (k - 1) : Nat) : Int) := by simp
                rw [e] at this
                omega) (Nat.lt_of_le_of_lt hle (by decide))
            have hbe := beI_beN k (r.take k) hL hBL
            rw [hm2, Int.toNat_natCast] at hbe
            rw [hm2, Int.toNat_natCast]
            unfold uintN
            rw [hw, hbe, List.cons_append, List.take_append_drop]

theorem bI_canon (most : Int) (bs : List Int) (hB : IsB bs) (h : (bI most bs 0).2.2 = 0) : bs = bytesI (bI most bs 0).1 ++ (bI most bs 0).2.1 := by
  by_cases hu : (uI most bs 0).2.2 = 0
  · by_cases hl : (uI most bs 0).2.1.length < (uI most bs 0).1.toNat
    · rw [bI_short most bs 0 hu hl] at h; simp at h
    · rw [bI_ok most bs 0 hu hl]
      have hc := uI_canon most bs hB hu
      simp only
      unfold bytesI
      have e : ((uI most bs 0).2.1.take (uI most bs 0).1.toNat).length = (uI most bs 0).1.toNat := by rw [List.length_take]; omega
      rw [e, List.append_assoc, List.take_append_drop]
      exact hc
  · rw [bI_err most bs 0 hu] at h; exact absurd h hu

theorem uI_sticks (most : Int) (bs : List Int) (e : Int) (h : (uI most bs e).2.2 = 0) : e = 0 := by
  by_cases he : e = 0
  · exact he
  · rw [uI_err most bs e he] at h; exact h
theorem bI_sticks (most : Int) (bs : List Int) (e : Int) (h : (bI most bs e).2.2 = 0) : e = 0 := by
  by_cases hu : (uI most bs e).2.2 = 0
  · exact uI_sticks most bs e hu
  · rw [bI_err most bs e hu] at h; exact absurd h hu

theorem lk_canon (m : Int) (bs : List Int) (e : Int) (hB : IsB bs) : ∀ k, (lkN m k ([], bs, e)).2.2 = 0 → e = 0 ∧ bs = (lkN m k ([], bs, e)).1.flatMap bytesI ++ (lkN m k ([], bs, e)).2.1
  | 0, h => ⟨h, by simp [lkN]⟩
  | k + 1, h => by
    have h' : (bI m (lkN m k ([], bs, e)).2.1 (lkN m k ([], bs, e)).2.2).2.2 = 0 := h
    have hk := bI_sticks _ _ _ h'
    obtain ⟨he, ih⟩ := lk_canon m bs e hB k hk
    refine ⟨he, ?_⟩
    rw [hk] at h'
    have hc := bI_canon m _ (lkN_isB m k ([], bs, e) (by intro p hp; cases hp) hB).2 h'
    show bs = ((lkN m k ([], bs, e)).1 ++ [(bI m (lkN m k ([], bs, e)).2.1 (lkN m k ([], bs, e)).2.2).1]).flatMap bytesI ++ (bI m (lkN m k ([], bs, e)).2.1 (lkN m k ([], bs, e)).2.2).2.1
    rw [hk, List.flatMap_append, List.flatMap_cons, List.flatMap_nil, List.append_nil, List.append_assoc, ← hc]
    exact ih

/-- Bytes that are read whole are those of what was read. -/
theorem dec_canon (m : Int) (b : List Int) (hB : IsB b) (h : (d6 m b).2.2 = 0) (hr : (d6 m b).2.1 = []) : b = encI (d1 b).1 (d2 b).1 (d3 m b).1 (d4 m b).1 (d5 m b).1 (d6 m b).1 := by
  obtain ⟨l1, l2, l3, l4, l5, _⟩ := d_left m b
  obtain ⟨h5, c6⟩ := lk_canon m (d5 m b).2.1 (d5 m b).2.2 (suf_isB l5 hB) (linksI (d1 b).1) h
  have c6 : (d5 m b).2.1 = (d6 m b).1.flatMap bytesI ++ (d6 m b).2.1 := c6
  rw [hr, List.append_nil] at c6
  have h4 : (d4 m b).2.2 = 0 := bI_sticks _ _ _ h5
  have h3 : (d3 m b).2.2 = 0 := uI_sticks _ _ _ h4
  have h2 : (d2 b).2.2 = 0 := bI_sticks _ _ _ h3
  have h1 : (d1 b).2.2 = 0 := uI_sticks _ _ _ h2
  have c5 : (d4 m b).2.1 = bytesI (d5 m b).1 ++ (d5 m b).2.1 := by
    have e : d5 m b = bI m (d4 m b).2.1 0 := by unfold d5; rw [h4]
    rw [e]; exact bI_canon m _ (suf_isB l4 hB) (by rw [← e]; exact h5)
  have c4 : (d3 m b).2.1 = uintN (d4 m b).1.toNat ++ (d4 m b).2.1 := by
    have e : d4 m b = uI 32 (d3 m b).2.1 0 := by unfold d4; rw [h3]
    rw [e]; exact uI_canon 32 _ (suf_isB l3 hB) (by rw [← e]; exact h4)
  have c3 : (d2 b).2.1 = bytesI (d3 m b).1 ++ (d3 m b).2.1 := by
    have e : d3 m b = bI m (d2 b).2.1 0 := by unfold d3; rw [h2]
    rw [e]; exact bI_canon m _ (suf_isB l2 hB) (by rw [← e]; exact h3)
  have c2 : (d1 b).2.1 = uintN (d2 b).1.toNat ++ (d2 b).2.1 := by
    have e : d2 b = uI 1125899906842624 (d1 b).2.1 0 := by unfold d2; rw [h1]
    rw [e]; exact uI_canon 1125899906842624 _ (suf_isB l1 hB) (by rw [← e]; exact h2)
  have c1 : b = uintN (d1 b).1.toNat ++ (d1 b).2.1 := uI_canon 255 b hB h1
  unfold encI
  rw [← c6, ← c5, ← c4, ← c3, ← c2, ← c1]

/-- What the reference takes for a record is what the program takes for one, and reads the same. -/
def refOk (size : Int) (b : List Int) : Prop := (d6 32 b).2.2 = 0 ∧ (d6 32 b).2.1 = [] ∧ canI size (d1 b).1 (d2 b).1 (d3 32 b).1 (d4 32 b).1 (d5 32 b).1 (d6 32 b).1
instance (size : Int) (b : List Int) : Decidable (refOk size b) := by unfold refOk; infer_instance
theorem ok_ref (size : Int) (b : List Int) (h : decOk size b) : refOk size b ∧ (d3 32 b).1 = (d3 size b).1 ∧ (d4 32 b).1 = (d4 size b).1 ∧ (d5 32 b).1 = (d5 size b).1 ∧ (d6 32 b).1 = (d6 size b).1 := by
  obtain ⟨h1, h2, h3, h4⟩ := h
  have k := dec_enc 32 (by have := h3.1; omega) h3
  rw [h4] at k
  obtain ⟨k1, k2, k3, k4, k5, k6⟩ := k
  refine ⟨⟨by rw [k6], by rw [k6], ?_⟩, k3, k4, k5, by rw [k6]⟩
  rw [k3, k4, k5, k6]
  exact h3
theorem ref_ok (size : Int) (b : List Int) (hB : IsB b) (h : refOk size b) : decOk size b := by
  obtain ⟨h1, h2, h3⟩ := h
  have hc := dec_canon 32 b hB h1 h2
  have k := dec_enc size (Int.le_refl _) h3
  rw [← hc] at k
  obtain ⟨k1, k2, k3, k4, k5, k6⟩ := k
  refine ⟨by rw [k6], by rw [k6], ?_, ?_⟩
  · rw [k3, k4, k5, k6]; exact h3
  · rw [k3, k4, k5, k6]; exact hc.symm

end Go.Proofs.YtjhannlioddkkaaDoor

namespace Go.Proofs.YtjhannlioddkkaaDoor
open Go.RowKit
set_option linter.unusedVariables false

theorem RRd.belowR {w w' : World} {g : Nat} {bs : List Int} {e : Int} (hr : RRd w g bs e) (hb : Below w.heap.size w w') : RRd w' g bs e := by
  obtain ⟨x, h1, h2⟩ := hr
  exact ⟨x, h1.belowS hb, h2.below hb (Nat.le_refl _)⟩
theorem RRd.slR {w w' : World} {g : Nat} {bs : List Int} {e : Int} (hr : RRd w g bs e) (hg : w.grownBy w' (some g)) {u : Value} {zs : List Int} (hu : Sl w u (zs.map (Value.int .u8))) : Sl w' u (zs.map (Value.int .u8)) := by
  obtain ⟨x, h1, h2⟩ := hr
  exact hu.keepG h1 (rrd_noB x h2.val e) hg
theorem RRd.keepT {w w' : World} {base : Nat} {v : Value} {pss : List (List Int)} (hO : OSls w base v pss) {g : Nat} {bs : List Int} {e : Int} (hr : RRd w g bs e) (hg : w.grownBy w' v.ownBlock) : RRd w' g bs e := by
  obtain ⟨vs, h1, h2⟩ := hO
  obtain ⟨x, k, hx⟩ := hr
  exact ⟨x, k.grown hg (fun e => own_blk_ne h1.1 k (by decide) e.symm), hx.keepK h1 hg⟩

structure RDecS (W w : World) (g gr : Nat) (e1 e2 e4 : Int) (tv lv ov : Value) (tb lb : List Int) (pss : List (List Int)) (rest : List Int) (er : Int) : Prop where
  kR : Blk w gr 35 #[.int .i64 e1, .int .i64 e2, tv, .int .i64 e4, lv, ov]
  hO : OSls w W.heap.size ov pss
  hr : RRd w g rest er
  ht : Sl w tv (tb.map (Value.int .u8))
  hl : Sl w lv (lb.map (Value.int .u8))
  kZ : Blk w W.heap.size 35 #[.int .i64 0, .int .i64 0, .slice none 0 0, .int .i64 0, .slice none 0 0, .slice none 0 0]
  hb : Below W.heap.size W w
  h1 : g ≠ gr
  h2 : W.heap.size < g
  h3 : W.heap.size < gr

section
variable {W w w1 : World} {g gr : Nat} {e1 e2 e4 : Int} {tv lv ov : Value} {tb lb : List Int} {pss : List (List Int)} {rest : List Int} {er : Int}
theorem RDecS.below (h : RDecS W w g gr e1 e2 e4 tv lv ov tb lb pss rest er) (hb : Below w.heap.size w w1) : RDecS W w1 g gr e1 e2 e4 tv lv ov tb lb pss rest er :=
  ⟨h.kR.belowS hb, h.hO.below hb, h.hr.belowR hb, h.ht.below hb (Nat.le_refl _), h.hl.below hb (Nat.le_refl _), h.kZ.belowS hb, below_trans2 h.hb hb, h.h1, h.h2, h.h3⟩
theorem OSls.keepRR {base : Nat} {v : Value} (h : OSls w base v pss) {bs : List Int} {e : Int} (hr : RRd w g bs e) (hg : w.grownBy w1 (some g)) : OSls w1 base v pss := by
  obtain ⟨x, k, hx⟩ := hr
  exact h.keepGk k (by decide) (rrd_noB x hx.val e) hg
theorem RDecS.read (h : RDecS W w g gr e1 e2 e4 tv lv ov tb lb pss rest er) {rest' : List Int} {er' : Int} (hR : RRdAt w w1 g rest' er') : RDecS W w1 g gr e1 e2 e4 tv lv ov tb lb pss rest' er' :=
  ⟨h.kR.grown hR.2 (by intro e; cases e; exact h.h1 rfl), h.hO.keepRR h.hr hR.2, hR.1, h.hr.slR hR.2 h.ht, h.hr.slR hR.2 h.hl, h.kZ.grown hR.2 (by intro e; cases e; exact absurd h.h2 (Nat.lt_irrefl _)), below_of_only h.hb hR.2 (Nat.le_of_lt h.h2) h.hb.size, h.h1, h.h2, h.h3⟩
theorem RDecS.noB (h : RDecS W w g gr e1 e2 e4 tv lv ov tb lb pss rest er) : ∀ (j : Nat) (n : Int), (#[.int .i64 e1, .int .i64 e2, tv, .int .i64 e4, lv, ov] : Array Value)[j]? ≠ some (.int .u8 n) := by
  obtain ⟨ta, tn, tc, e1'⟩ := h.ht.val
  obtain ⟨la, ln, lc, e2'⟩ := h.hl.val
  obtain ⟨oa, oc, e3'⟩ := h.hO.val
  exact rec_noB ⟨_, _, _, e1'⟩ ⟨_, _, _, e2'⟩ ⟨_, _, _, e3'⟩
theorem set_only (w : World) (g i : Nat) (u : Value) : w.grownBy (w.setCell ⟨g, i, none⟩ u) (some g) := only_setCell (p := ⟨g, i, none⟩) (World.grownBy.refl _ _) (.inl rfl) _
theorem RDecS.keep (h : RDecS W w g gr e1 e2 e4 tv lv ov tb lb pss rest er) (hg : w.grownBy w1 (some gr)) :
    OSls w1 W.heap.size ov pss ∧ RRd w1 g rest er ∧ Sl w1 tv (tb.map (Value.int .u8)) ∧ Sl w1 lv (lb.map (Value.int .u8)) ∧ Blk w1 W.heap.size 35 #[.int .i64 0, .int .i64 0, .slice none 0 0, .int .i64 0, .slice none 0 0, .slice none 0 0] ∧ Below W.heap.size W w1 := by
  obtain ⟨x, r1, r2⟩ := h.hr
  exact ⟨h.hO.keepGk h.kR (by decide) h.noB hg, ⟨x, r1.grown hg (by intro e; cases e; exact h.h1 rfl), r2.keepG h.kR h.noB hg⟩, h.ht.keepG h.kR h.noB hg, h.hl.keepG h.kR h.noB hg, h.kZ.grown hg (by intro e; cases e; exact absurd h.h3 (Nat.lt_irrefl _)), below_of_only h.hb hg (Nat.le_of_lt h.h3) h.hb.size⟩
theorem RDecS.set1 (h : RDecS W w g gr e1 e2 e4 tv lv ov tb lb pss rest er) (u : Int) : RDecS W (w.setCell ⟨gr, 1, none⟩ (.int .i64 u)) g gr e1 u e4 tv lv ov tb lb pss rest er := by
  obtain ⟨k1, k2, k3, k4, k5, k6⟩ := h.keep (set_only w gr 1 (.int .i64 u))
  exact ⟨h.kR.set_ 1 _, k1, k2, k3, k4, k5, k6, h.h1, h.h2, h.h3⟩
theorem RDecS.set2 (h : RDecS W w g gr e1 e2 e4 tv lv ov tb lb pss rest er) {u : Value} {zs : List Int} (hu : Sl w u (zs.map (Value.int .u8))) : RDecS W (w.setCell ⟨gr, 2, none⟩ u) g gr e1 e2 e4 u lv ov zs lb pss rest er := by
  obtain ⟨k1, k2, k3, k4, k5, k6⟩ := h.keep (set_only w gr 2 u)
  exact ⟨h.kR.set_ 2 _, k1, k2, hu.keepG h.kR h.noB (set_only w gr 2 u), k4, k5, k6, h.h1, h.h2, h.h3⟩
theorem RDecS.set3 (h : RDecS W w g gr e1 e2 e4 tv lv ov tb lb pss rest er) (u : Int) : RDecS W (w.setCell ⟨gr, 3, none⟩ (.int .i64 u)) g gr e1 e2 u tv lv ov tb lb pss rest er := by
  obtain ⟨k1, k2, k3, k4, k5, k6⟩ := h.keep (set_only w gr 3 (.int .i64 u))
  exact ⟨h.kR.set_ 3 _, k1, k2, k3, k4, k5, k6, h.h1, h.h2, h.h3⟩
theorem RDecS.set4 (h : RDecS W w g gr e1 e2 e4 tv lv ov tb lb pss rest er) {u : Value} {zs : List Int} (hu : Sl w u (zs.map (Value.int .u8))) : RDecS W (w.setCell ⟨gr, 4, none⟩ u) g gr e1 e2 e4 tv u ov tb zs pss rest er := by
  obtain ⟨k1, k2, k3, k4, k5, k6⟩ := h.keep (set_only w gr 4 u)
  exact ⟨h.kR.set_ 4 _, k1, k2, k3, hu.keepG h.kR h.noB (set_only w gr 4 u), k5, k6, h.h1, h.h2, h.h3⟩
theorem RDecS.app (h : RDecS W w g gr e1 e2 e4 tv lv ov tb lb pss rest er) {ov' : Value} {pss' : List (List Int)} (hO : OSls w1 W.heap.size ov' pss') (hg : w.grownBy w1 ov.ownBlock) :
    w1.cell? ⟨gr, 5, none⟩ = some ov ∧ w1.frozen? ⟨gr, 5, none⟩ = false ∧ RDecS W (w1.setCell ⟨gr, 5, none⟩ ov') g gr e1 e2 e4 tv lv ov' tb lb pss' rest er := by
  have kR := h.kR.keepO h.hO hg (by decide)
  have hr := RRd.keepT h.hO h.hr hg
  have kZ := h.kZ.keepO h.hO hg (by decide)
  have hOO := h.hO
  obtain ⟨vs, o1, o2⟩ := hOO
  have ht := h.ht.keepK o1 hg
  have hl := h.hl.keepK o1 hg
  have hb : Below W.heap.size W w1 := h.hb.grown hg h.hb.size (fun k hk => (o1.1.lt k hk).1)
  have hNB := h.noB
  have hgS := set_only w1 gr 5 ov'
  obtain ⟨x, r1, r2⟩ := hr
  refine ⟨kR.cell 5, kR.frozen 5, kR.set_ 5 _, hO.keepGk kR (by decide) hNB hgS, ⟨x, r1.grown hgS (by intro e; cases e; exact h.h1 rfl), r2.keepG kR hNB hgS⟩, ht.keepG kR hNB hgS, hl.keepG kR hNB hgS, kZ.grown hgS (by intro e; cases e; exact absurd h.h3 (Nat.lt_irrefl _)), below_of_only hb hgS (Nat.le_of_lt h.h3) hb.size, h.h1, h.h2, h.h3⟩
theorem RDecS.stored (h : RDecS W w g gr e1 e2 e4 tv lv ov tb lb pss rest er) (hg : w.grownBy w1 (some W.heap.size)) :
    RecV w1 (.agg #[.int .i64 e1, .int .i64 e2, tv, .int .i64 e4, lv, ov]) e1 e2 tb e4 lb pss ∧ Below W.heap.size W w1 := by
  have hNB := rec_noB (e1 := 0) (e2 := 0) (e4 := 0) (tv := .slice none 0 0) (lv := .slice none 0 0) (ov := .slice none 0 0) ⟨_, _, _, rfl⟩ ⟨_, _, _, rfl⟩ ⟨_, _, _, rfl⟩
  exact ⟨⟨tv, lv, ov, rfl, h.ht.keepG h.kZ hNB hg, h.hl.keepG h.kZ hNB hg, (h.hO.keepGk h.kZ (by decide) hNB hg).sls⟩, below_of_only h.hb hg (Nat.le_refl _) h.hb.size⟩
end

end Go.Proofs.YtjhannlioddkkaaDoor

namespace Go.Proofs.YtjhannlioddkkaaDoor
open Go.RowKit
set_option linter.unusedVariables false

/-- What Take takes: the piece, what is left, the error. -/
def tkI (z : Nat) (r : List Int) (e : Int) : List Int × List Int × Int :=
  if e ≠ 0 then ([], r, e) else if r.length < z then ([], [], 3) else (r.take z, r.drop z, 0)
def tkStep (z : Nat) (s : List (List Int) × List Int × Int) : List (List Int) × List Int × Int :=
  (s.1 ++ [(tkI z s.2.1 s.2.2).1], (tkI z s.2.1 s.2.2).2.1, (tkI z s.2.1 s.2.2).2.2)
def tkN (z : Nat) : Nat → List (List Int) × List Int × Int → List (List Int) × List Int × Int
  | 0, s => s
  | k + 1, s => tkStep z (tkN z k s)

theorem tkN_len (z k : Nat) (s : List (List Int) × List Int × Int) : (tkN z k s).1.length = s.1.length + k := by
  induction k with
  | zero => rfl
  | succ k ih => show ((tkN z k s).1 ++ [_]).length = _; rw [List.length_append, ih, List.length_singleton]; omega
theorem tkI_suf (z : Nat) (r : List Int) (e : Int) : (tkI z r e).2.1.length ≤ r.length := by
  unfold tkI
  split
  · exact Nat.le_refl _
  · split
    · simp
    · simp
theorem tkN_suf (z k : Nat) (s : List (List Int) × List Int × Int) : (tkN z k s).2.1.length ≤ s.2.1.length := by
  induction k with
  | zero => exact Nat.le_refl _
  | succ k ih => exact Nat.le_trans (tkI_suf _ _ _) ih
theorem tkN_err (z k : Nat) (l : List (List Int)) (r : List Int) (e : Int) (he : e ≠ 0) : (tkN z k (l, r, e)).2 = (r, e) := by
  induction k with
  | zero => rfl
  | succ k ih =>
    show ((tkI z (tkN z k (l, r, e)).2.1 (tkN z k (l, r, e)).2.2).2.1, (tkI z (tkN z k (l, r, e)).2.1 (tkN z k (l, r, e)).2.2).2.2) = _
    rw [ih]
    unfold tkI
    rw [if_pos he]
theorem tkN_short (z k : Nat) (l : List (List Int)) (r : List Int) (hs : ¬ z * k ≤ r.length) : (tkN z k (l, r, 0)).2 = ([], 3) ∨ ∃ j, (tkN z k (l, r, 0)).2 = (r.drop (z * j), 0) ∧ z * k ≤ r.length := by
  induction k with
  | zero => simp at hs
  | succ k ih =>
    left
    show ((tkI z (tkN z k (l, r, 0)).2.1 (tkN z k (l, r, 0)).2.2).2.1, (tkI z (tkN z k (l, r, 0)).2.1 (tkN z k (l, r, 0)).2.2).2.2) = _
    by_cases hk : z * k ≤ r.length
    · have h2 : ∀ j, z * j ≤ r.length → (tkN z j (l, r, 0)).2 = (r.drop (z * j), 0) := by
        intro j
        induction j with
        | zero => intro _; simp [tkN]
        | succ j jh =>
          intro hj
          have hj' : z * j ≤ r.length := Nat.le_trans (Nat.mul_le_mul (Nat.le_refl z) (Nat.le_succ j)) hj
          show ((tkI z (tkN z j (l, r, 0)).2.1 (tkN z j (l, r, 0)).2.2).2.1, (tkI z (tkN z j (l, r, 0)).2.1 (tkN z j (l, r, 0)).2.2).2.2) = _
          rw [jh hj']
          unfold tkI
          rw [if_neg (by simp), if_neg (by rw [List.length_drop]; rw [Nat.mul_succ] at hj; omega)]
          simp [Nat.mul_succ, List.drop_drop]
      rw [h2 k hk]
      unfold tkI
      rw [if_neg (by simp), if_pos (by rw [List.length_drop]; rw [Nat.mul_succ] at hs; omega)]
    · rcases ih hk with h | ⟨j, _, h⟩
      · rw [h]
        unfold tkI
        rw [if_pos (by decide)]
      · exact absurd h hk
theorem tkN_ok (z k : Nat) (r : List Int) (hk : z * k ≤ r.length) : tkN z k ([], r, 0) = (chunksI z r 0 k, r.drop (z * k), 0) := by
  induction k with
  | zero => simp [tkN, chunksI]
  | succ k ih =>
    have hk' : z * k ≤ r.length := Nat.le_trans (Nat.mul_le_mul (Nat.le_refl z) (Nat.le_succ k)) hk
    show tkStep z (tkN z k ([], r, 0)) = _
    rw [ih hk', chunksI_succ, Nat.zero_add]
    unfold tkStep tkI
    rw [if_neg (by simp), if_neg (by rw [List.length_drop]; rw [Nat.mul_succ] at hk; omega)]
    simp [Nat.mul_succ, List.drop_drop, chunkI]
theorem chunkI_drop (z n : Nat) (r : List Int) (i : Nat) : chunkI z (r.drop (z * n)) i = chunkI z r (n + i) := by
  unfold chunkI
  rw [List.drop_drop, ← Nat.mul_add]
theorem chunksI_drop (z n H : Nat) (r : List Int) : chunksI z (r.drop (z * n)) 0 H = chunksI z r n H := by
  unfold chunksI
  refine List.map_congr_left fun i _ => ?_
  rw [chunkI_drop, Nat.zero_add]

/-- Both of Read's rounds: what is left, and the error. -/
theorem tk_two (z n H : Nat) (r : List Int) (e : Int) :
    (e ≠ 0 → (tkN z H ([], (tkN z n ([], r, e)).2.1, (tkN z n ([], r, e)).2.2)).2.2 = e) ∧
    (e = 0 → ¬ z * (n + H) ≤ r.length → (tkN z H ([], (tkN z n ([], r, e)).2.1, (tkN z n ([], r, e)).2.2)).2.2 = 3) ∧
    (e = 0 → z * (n + H) ≤ r.length → (tkN z n ([], r, e)).1 = chunksI z r 0 n ∧ tkN z H ([], (tkN z n ([], r, e)).2.1, (tkN z n ([], r, e)).2.2) = (chunksI z r n H, r.drop (z * (n + H)), 0)) := by
  refine ⟨fun he => ?_, fun he hs => ?_, fun he hs => ?_⟩
  · rw [tkN_err z n [] r e he, tkN_err z H [] r e he]
  · subst he
    by_cases hn : z * n ≤ r.length
    · rw [tkN_ok z n r hn]
      have h2 : ¬ z * H ≤ (r.drop (z * n)).length := by rw [List.length_drop]; rw [Nat.mul_add] at hs; omega
      rcases tkN_short z H [] (r.drop (z * n)) h2 with h | ⟨j, _, h⟩
      · rw [h]
      · exact absurd h h2
    · rcases tkN_short z n [] r hn with h | ⟨j, _, h⟩
      · rw [h, tkN_err z H [] [] 3 (by decide)]
      · exact absurd h hn
  · subst he
    have hn : z * n ≤ r.length := Nat.le_trans (Nat.mul_le_mul (Nat.le_refl z) (Nat.le_add_right n H)) hs
    rw [tkN_ok z n r hn]
    refine ⟨rfl, ?_⟩
    show tkN z H ([], r.drop (z * n), 0) = _
    rw [tkN_ok z H (r.drop (z * n)) (by rw [List.length_drop]; rw [Nat.mul_add] at hs; omega), chunksI_drop, List.drop_drop, ← Nat.mul_add]

theorem refTake_any (g : Nat) (bs : List Int) (er : Int) (z : Nat) (w : World) (hz : z ≤ 32) (hl : bs.length ≤ 140737488351232) (h : RRd w g bs er) :
    Calls Tryd.prog 50 #[.pointer (some ⟨g, 0, none⟩), .int .i64 z] w fun e w' => ∃ x, e = .returned x ∧ Sl w' x ((tkI z bs er).1.map (Value.int .u8)) ∧ RRdAt w w' g (tkI z bs er).2.1 (tkI z bs er).2.2 := by
  by_cases he : er = 0
  · subst he
    by_cases hs : bs.length < z
    · have e : tkI z bs 0 = ([], [], 3) := by unfold tkI; rw [if_neg (by simp), if_pos hs]
      rw [e]
      exact (refTake_short g bs z w hs h).mono fun e w' ⟨h1, h2⟩ => ⟨_, h1, Sl.nil _, h2⟩
    · have e : tkI z bs 0 = (bs.take z, bs.drop z, 0) := by unfold tkI; rw [if_neg (by simp), if_neg hs]
      rw [e]
      exact refTake_ok g bs z w (by omega) (by omega) h
  · have e : tkI z bs er = ([], bs, er) := by unfold tkI; rw [if_pos he]
    rw [e]
    exact (refTake_err g bs er z w he h).mono fun e w' ⟨h1, h2⟩ => ⟨_, h1, Sl.nil _, by subst h2; exact RRdAt.same h⟩

/-- What stands while the reference reads a signature. -/
structure MrrS (w wr : World) (g gs : Nat) (idx : Int) (vp vq : Value) (Bq : Nat) (P Q : List (List Int)) (rest : List Int) (er : Int) : Prop where
  ms : MrS w wr gs idx vp vq Bq P Q
  hr : RRd wr g rest er
  h1 : g ≠ gs
  h2 : w.heap.size < g
theorem MrrS.below {w wr w1 : World} {g gs Bq : Nat} {idx : Int} {vp vq : Value} {P Q : List (List Int)} {rest : List Int} {er : Int} (h : MrrS w wr g gs idx vp vq Bq P Q rest er) (hb : Below wr.heap.size wr w1) : MrrS w w1 g gs idx vp vq Bq P Q rest er :=
  ⟨h.ms.below hb, h.hr.belowR hb, h.h1, h.h2⟩
theorem MrrS.read {w wr w1 : World} {g gs Bq : Nat} {idx : Int} {vp vq : Value} {P Q : List (List Int)} {rest rest' : List Int} {er er' : Int} (h : MrrS w wr g gs idx vp vq Bq P Q rest er) (hR : RRdAt wr w1 g rest' er') : MrrS w w1 g gs idx vp vq Bq P Q rest' er' :=
  ⟨⟨h.ms.kS.grown hR.2 (by intro e; cases e; exact h.h1 rfl), h.ms.kZ.grown hR.2 (by intro e; cases e; exact absurd h.h2 (Nat.lt_irrefl _)), h.ms.hP.keepRR h.hr hR.2, h.ms.hQ.keepRR h.hr hR.2, h.ms.ne, Nat.le_trans h.ms.le hR.2.size, h.ms.lo, below_of_only h.ms.bel hR.2 (Nat.le_of_lt h.h2) h.ms.bel.size, h.ms.zs⟩, hR.1, h.h1, h.h2⟩
theorem MrrS.app1 {w wr w5 : World} {g gs Bq : Nat} {idx : Int} {vp v5 : Value} {P P5 : List (List Int)} {rest : List Int} {er : Int} (h : MrrS w wr g gs idx vp (.slice none 0 0) Bq P [] rest er) (hO : OSls w5 w.heap.size v5 P5) (hg : wr.grownBy w5 vp.ownBlock) (hb : Below w.heap.size wr w5) :
    w5.frozen? ⟨gs, 1, none⟩ = false ∧ w5.cell? ⟨gs, 1, none⟩ = some vp ∧ MrrS w (w5.setCell ⟨gs, 1, none⟩ v5) g gs idx v5 (.slice none 0 0) w5.heap.size P5 [] rest er := by
  obtain ⟨f, q, hS, hk⟩ := h.ms.app1 hO hg hb
  have k5 := h.ms.kS.keepO h.ms.hP hg (by decide)
  obtain ⟨x, r1, r2⟩ := RRd.keepT h.ms.hP h.hr hg
  exact ⟨f, q, hS, ⟨x, r1.grown (set_only w5 gs 1 v5) (by intro e; cases e; exact h.h1 rfl), r2.keepG k5 (sig_noB h.ms.hP.isSl ⟨_, _, _, rfl⟩) (set_only w5 gs 1 v5)⟩, h.h1, h.h2⟩
theorem MrrS.app2 {w wr w5 : World} {g gs Bq : Nat} {idx : Int} {vp vq v5 : Value} {P Q Q5 : List (List Int)} {rest : List Int} {er : Int} (h : MrrS w wr g gs idx vp vq Bq P Q rest er) (hO : OSls w5 Bq v5 Q5) (hg : wr.grownBy w5 vq.ownBlock) (hb : Below Bq wr w5) :
    w5.frozen? ⟨gs, 2, none⟩ = false ∧ w5.cell? ⟨gs, 2, none⟩ = some vq ∧ MrrS w (w5.setCell ⟨gs, 2, none⟩ v5) g gs idx vp v5 Bq P Q5 rest er := by
  obtain ⟨f, q, hS, hk⟩ := h.ms.app2 hO hg hb h.ms.lo
  have k5 := h.ms.kS.keepO h.ms.hQ hg (by decide)
  obtain ⟨x, r1, r2⟩ := RRd.keepT h.ms.hQ h.hr hg
  exact ⟨f, q, hS, ⟨x, r1.grown (set_only w5 gs 2 v5) (by intro e; cases e; exact h.h1 rfl), r2.keepG k5 (sig_noB h.ms.hP.isSl h.ms.hQ.isSl) (set_only w5 gs 2 v5)⟩, h.h1, h.h2⟩
/-- The second row begins. -/
theorem MrrS.rebase {w wr : World} {g gs Bq : Nat} {idx : Int} {vp : Value} {P : List (List Int)} {rest : List Int} {er : Int} (h : MrrS w wr g gs idx vp (.slice none 0 0) Bq P [] rest er) : MrrS w wr g gs idx vp (.slice none 0 0) wr.heap.size P [] rest er :=
  ⟨⟨h.ms.kS, h.ms.kZ, h.ms.hP, OSls.nil _ _, fun g hg => Nat.lt_of_lt_of_le (h.ms.ne g hg) h.ms.le, Nat.le_refl _, h.ms.bel.size, h.ms.bel, h.ms.zs⟩, h.hr, h.h1, h.h2⟩

end Go.Proofs.YtjhannlioddkkaaDoor

namespace Go.Proofs.YtjhannlioddkkaaDoor
open Go.RowKit
set_option linter.unusedVariables false

theorem Sl.dropA {w : World} {ad : Option Addr} {cap n m : Nat} {xs : List Value} (h : Sl w (.slice ad m cap) xs) (hn : n ≤ xs.length) :
    Sl w (.slice (if cap = n then ad else ad.map fun x => x.add n) (m - n) (cap - n)) (xs.drop n) := by
  obtain ⟨a', cap', h0, h1, h2, h3⟩ := h
  cases h0
  have hl : (xs.drop n).length = xs.length - n := by simp
  refine ⟨_, cap - n, by rw [hl], by omega, by omega, fun hp => ?_⟩
  obtain ⟨b, off, rfl, hlt, hc⟩ := h3 (by omega)
  refine ⟨b, off + n, by rw [if_neg (by omega), Option.map_some, add_plain0], hlt, fun j u hu => ?_⟩
  rw [List.getElem?_drop] at hu
  have := hc _ u hu
  rwa [← Nat.add_assoc] at this
theorem clone_rest {w : World} {ra : Option Addr} {rc T : Nat} {rest : List Int} (h : Sl w (.slice ra rest.length rc) (rest.map (Value.int .u8))) (hT : T ≤ rest.length) (hl : rest.length ≤ 140737488351232) (w' : World) (hb : Below w.heap.size w w') :
    Calls Tryd.prog 48 #[.slice (if rc = T then ra else Option.map (fun x => x.add T) ra) (rest.length - T) (rc - T)] w' fun e w'' => ∃ v', e = .returned v' ∧ Sl w'' v' ((rest.drop T).map (Value.int .u8)) ∧ Below w'.heap.size w' w'' := by
  have hd := h.dropA (n := T) (by rw [List.length_map]; exact hT)
  rw [← List.map_drop] at hd
  exact (sclone_own _ _ w' (by rw [List.length_drop]; omega) (hd.below hb (Nat.le_refl _))).mono fun e w'' ⟨v', he, ho, hb⟩ => ⟨v', he, Sl.of_owns ho, hb⟩
theorem wrap_of {x y : Int} (h : wrap64 x = y) : IntKind.i64.wrap x = y := by rw [← h, IntKind.wrap_i64]; unfold wrap64; omega
theorem threeSet {w : World} {g : Nat} (x0 x1 x2 : Value) : w.grownBy (((w.setCell ⟨g, 0, none⟩ x0).setCell ⟨g, 1, none⟩ x1).setCell ⟨g, 2, none⟩ x2) (some g) :=
  only_setCell (p := ⟨g, 2, none⟩) (only_setCell (p := ⟨g, 1, none⟩) (only_setCell (p := ⟨g, 0, none⟩) (World.grownBy.refl _ _) (.inl rfl) _) (.inl rfl) _) (.inl rfl) _
/-- The signature that was read is handed on. -/
theorem MrS.stored {w wr w9 : World} {gs Bq : Nat} {idx : Int} {vp vq y : Value} {P Q : List (List Int)} {R : List Int} (h : MrS w wr gs idx vp vq Bq P Q) (hb : Below wr.heap.size wr w9) (hy : Sl w9 y (R.map (Value.int .u8))) (x0 x1 x2 : Value) :
    (SigV (((w9.setCell ⟨w.heap.size, 0, none⟩ x0).setCell ⟨w.heap.size, 1, none⟩ x1).setCell ⟨w.heap.size, 2, none⟩ x2) (.agg #[.int .i64 idx, vp, vq]) idx P Q ∧ Sl (((w9.setCell ⟨w.heap.size, 0, none⟩ x0).setCell ⟨w.heap.size, 1, none⟩ x1).setCell ⟨w.heap.size, 2, none⟩ x2) y (R.map (Value.int .u8))) ∧ Below w.heap.size w (((w9.setCell ⟨w.heap.size, 0, none⟩ x0).setCell ⟨w.heap.size, 1, none⟩ x1).setCell ⟨w.heap.size, 2, none⟩ x2) := by
  have hg := threeSet (w := w9) (g := w.heap.size) x0 x1 x2
  have kZ := h.kZ.belowS hb
  have hNB := sig_noB (idx := 0) (vp := .slice none 0 0) (vq := .slice none 0 0) ⟨_, _, _, rfl⟩ ⟨_, _, _, rfl⟩
  exact ⟨⟨⟨vp, vq, rfl, ((h.hP.below hb).keepGk kZ (by decide) hNB hg).sls, ((h.hQ.below hb).keepGk kZ (by decide) hNB hg).sls⟩, hy.keepG kZ hNB hg⟩, below_of_only (below_trans2 h.bel hb) hg (Nat.le_refl _) (below_trans2 h.bel hb).size⟩
theorem next_at {k M : Nat} (hk : k < M) (hM : M ≤ 141) : wrap64 ((k : Int) + 1) = ((k + 1 : Nat) : Int) := by unfold wrap64; omega
theorem piece_at {z k M T : Nat} (hk : k < M) (hT : T = z * M) (hT1 : T ≤ 4512) : ∃ q r : Nat, q = z * k ∧ r = q + z ∧ r ≤ T ∧ q ≤ r ∧ wrap64 ((z : Int) * (k : Int)) = (q : Int) ∧ wrap64 ((q : Int) + (z : Int)) = (r : Int) := by
  have h1 : z * k + z ≤ T := by rw [hT]; exact Nat.mul_le_mul (Nat.le_refl z) hk
  have e1 : ((z : Int) * (k : Int)) = ((z * k : Nat) : Int) := by simp
  rw [e1]
  generalize z * k = q at *
  clear e1 hT hk
  exact ⟨q, q + z, rfl, rfl, h1, by omega, by unfold wrap64; omega, by unfold wrap64; omega⟩
theorem chunk_piece {z k q r : Nat} (rest : List Int) (hq : q = z * k) (hr : r = q + z) (h : r ≤ rest.length) : (rest.drop q).take (r - q) = chunkI z rest k ∧ (chunkI z rest k).length = r - q := by
  have e : (rest.drop q).take (r - q) = chunkI z rest k := by unfold chunkI; rw [hr, Nat.add_sub_cancel_left, hq]
  refine ⟨e, ?_⟩
  rw [← e, List.length_take, List.length_drop]; clear e hq; omega

set_option maxRecDepth 100000 in
set_option maxHeartbeats 4000000 in
theorem mread_any (size height : Int) (v : Value) (bs : List Int) (w : World) (hz0 : -9223372036854775808 ≤ size) (hz1 : size ≤ 9223372036854775807) (hh0 : -9223372036854775808 ≤ height) (hh1 : height ≤ 9223372036854775807) (hl : bs.length ≤ 140737488351232) (hB : IsB bs) (hs : Sl w v (bs.map (Value.int .u8))) :
    Calls Tryd.prog 10 #[.int .i64 size, .int .i64 height, v] w fun e w' => ∃ x y, e = .returned (.tuple #[x, y, .int .i64 (mrC size height bs)]) ∧ MrRes w w' size height bs x y := by
  obtain ⟨va, vc, rfl, hc, hm⟩ := hs.shape
  rw [List.length_map] at *
  have hb1 : Below w.heap.size w (w.alloc (.cells #[.int .i64 0, .slice none 0 0, .slice none 0 0] 24)) := (Below.refl _ _).alloc (Nat.le_refl _) _
  have kZ := Blk.new w 24 #[.int .i64 0, .slice none 0 0, .slice none 0 0]
  have hs1 := hs.below hb1 (Nat.le_refl _)
  have hsz1 : (w.alloc (.cells #[.int .i64 0, .slice none 0 0, .slice none 0 0] 24)).heap.size = w.heap.size + 1 := by simp
  have HLL := Lib.hid hl
  have HB := Lib.hid hB
  have HSS := Lib.hid hs
  clear hs hl hB
  by_cases hcan : mcanB size height = true
  rotate_left
  · have hcan : mcanB size height = false := by simpa using hcan
    have HC := Lib.hid (mcan_any size height (w.alloc (.cells #[.int .i64 0, .slice none 0 0, .slice none 0 0] 24)))
    rw [hcan] at HC
    have hC1 : mrC size height bs = 1 := by unfold mrC; rw [if_pos hcan]
    have HC1 := Lib.hid hC1
    have HB1 := Lib.hid hb1
    obtain ⟨z0, z1, z2⟩ := rec3 kZ
    have f0 := kZ.frozen 0
    have f1 := kZ.frozen 1
    have f2 := kZ.frozen 2
    clear hC1 hcan hs1 hb1
    go_enter Tryd.func10, Tryd.ntmps10
    go_wp2_with fail
    generalize (w.alloc (.cells #[.int .i64 0, .slice none 0 0, .slice none 0 0] 24)) = w1 at *
    refine HC.out.mono ?_
    rintro e w2 ⟨rfl, rfl⟩
    go_wp2
    exact bodyPost_ret (by rw [results_cell_tmp2 rfl]; go_simp; exact rfl) rfl ⟨_, _, by rw [HC1.out], MrRes.no (set3_below HB1.out (Nat.le_refl _) (by omega) _ _ _) (by rw [HC1.out]; decide)⟩
  have hcan' : 1 ≤ size ∧ size ≤ 32 ∧ 0 ≤ height ∧ height ≤ 8 := by unfold mcanB at hcan; exact of_decide_eq_true hcan
  obtain ⟨z, rfl⟩ : ∃ z : Nat, size = z := ⟨size.toNat, by omega⟩
  obtain ⟨H, rfl⟩ : ∃ H : Nat, height = H := ⟨height.toNat, by omega⟩
  have hz : 1 ≤ z ∧ z ≤ 32 := by omega
  have hH : H ≤ 8 := by omega
  obtain ⟨P, hP⟩ : ∃ P : Nat, P = 2 ^ H := ⟨_, rfl⟩
  have hP1 : 1 ≤ P ∧ P ≤ 256 := by rw [hP]; exact ⟨Nat.one_le_two_pow, Nat.pow_le_pow_right (by omega) hH⟩
  have hPI : ((2 : Int) ^ H) = (P : Int) := by rw [show ((2 : Int) ^ H) = ((2 ^ H : Nat) : Int) by simp, ← hP]
  have hW : wrap64 ((2 : Int) ^ H) = (P : Int) := by rw [hPI]; unfold wrap64; omega
  have hW2 : wrap64 ((P : Int) - 1) = (P : Int) - 1 := by unfold wrap64; omega
  have hMU : mrU H bs = uI ((P : Int) - 1) bs 0 := by unfold mrU; rw [hPI]
  have HC := Lib.hid (mcan_any z H (w.alloc (.cells #[.int .i64 0, .slice none 0 0, .slice none 0 0] 24)))
  rw [hcan] at HC
  have hC1 : mrC z H bs = if (mrU H bs).2.2 ≠ 0 then (mrU H bs).2.2 else if (mrU H bs).2.1.length < z * (4 * z + 5 + H) then 3 else 0 := by unfold mrC mrNeed; rw [if_neg (by simp [hcan])]; simp
  have HPO : Hid (∀ (w' : World) (x y : Value), ((mrC z H bs = 0 → SigV w' x (mrU H bs).1 (chunksI z (mrU H bs).2.1 0 (4 * z + 5)) (chunksI z (mrU H bs).2.1 (4 * z + 5) H) ∧ Sl w' y (((mrU H bs).2.1.drop (z * (4 * z + 5 + H))).map (Value.int .u8))) ∧
      (¬ mrC z H bs = 0 → x = .agg #[.int .i64 0, .slice none 0 0, .slice none 0 0] ∧ y = .slice none 0 0) ∧ Below w.heap.size w w') → MrRes w w' z H bs x y) := fun w' x y h => by
    unfold MrRes mrParts mrPath mrNeed
    simpa using h
  have hLR := uI_left ((P : Int) - 1) bs 0
  rw [← hMU] at hLR
  have HLR := Lib.hid hLR
  have HRU := Lib.hid (fun (g : Nat) (w1 : World) (h : Rd w1 g bs 0) => cruint_any g bs 0 ((P : Int) - 1) w1 HB.out HLL.out h)
  rw [← hMU] at HRU
  have HC1 := Lib.hid hC1
  generalize mrU H bs = U at *
  obtain ⟨idx, rest, err⟩ := U
  simp only at HC1 HPO HRU HLR
  generalize mrC z H bs = CC at *
  clear hcan hcan' hP hPI hMU hC1 hLR
  go_enter Tryd.func10, Tryd.ntmps10
  go_wp2_with fail
  generalize (w.alloc (.cells #[.int .i64 0, .slice none 0 0, .slice none 0 0] 24)) = w1 at *
  refine HC.out.mono ?_
  rintro e w2 ⟨rfl, rfl⟩
  go_wp2_with fail
  refine (copen_any _ bs w1 HLL.out hs1).mono ?_
  rintro e w2 ⟨g, rfl, hg, hr2, hb2⟩
  have kZ := kZ.belowS hb2
  have hbr := hb1.trans (hb2.mono hb1.size)
  have hgP : w.heap.size < g := by omega
  clear hs1 hb1 hb2 hsz1 hg HC
  have HU := Lib.hid (HRU.out g w2 hr2)
  go_wp2_with fail
  refine HU.out.mono ?_
  rintro e w3 ⟨rfl, hr3, hg3⟩
  have kZ := kZ.grown hg3 (by intro e; cases e; omega)
  have hbr := below_of_only hbr hg3 (by omega) hbr.size
  clear hg3 HU hr2 HRU
  have hbA : Below w3.heap.size w3 (w3.alloc (.cells #[.int .i64 idx, .slice none 0 0, .slice none 0 0] 24)) := (Below.refl _ _).alloc (Nat.le_refl _) _
  have kS := Blk.new w3 24 #[.int .i64 idx, .slice none 0 0, .slice none 0 0]
  have kZ := kZ.belowS hbA
  have hr4 := hr3.below hbA
  have hbr := below_trans2 hbr hbA
  have HGZ := Lib.hid (show w.heap.size < w3.heap.size by obtain ⟨_, hk, _⟩ := hr3; have := hk.lt; omega)
  clear hr3 hbA
  go_wp2_with fail
  generalize (w3.alloc (.cells #[.int .i64 idx, .slice none 0 0, .slice none 0 0] 24)) = w4 at *
  generalize w3.heap.size = gs at *
  refine (crleft_any g _ _ w4 hr4).mono ?_
  rintro e w5 ⟨rfl, rfl⟩
  obtain ⟨D, hD⟩ : ∃ D : Nat, D = bs.length - rest.length := ⟨_, rfl⟩
  have hlr := suf_len HLR.out
  have HDR := Lib.hid (show bs.drop D = rest from by
    rcases HLR.out with h | h
    · subst h; rw [hD]; simp
    · obtain ⟨pre, rfl⟩ := h
      rw [hD, List.length_append, Nat.add_sub_cancel, List.drop_left])
  have HDL := Lib.hid (show D ≤ bs.length by omega)
  have hD2 : wrap64 ((bs.length : Int) - (rest.length : Int)) = D := by rw [hD]; have := HLL.out; simp only [wrap64]; omega
  have hs4 := HSS.out.below hbr (Nat.le_refl _)
  have HRL := Lib.hid (show rest.length ≤ 140737488351232 from Nat.le_trans hlr HLL.out)
  clear hlr hD
  go_wp2_with (refine wpList_from rfl _ _ 25 5 rfl Tryd.underlying25 size8 _ D _ rfl hs4 (by first | rfl | (rw [← hD2]; rfl)) (by have := HDL.out; simpa using this) ?_)
  intro ra rc hrs
  rw [← List.map_drop, HDR.out] at hrs
  have hmk := fun w1 => run_make_bytes z (by omega) w1
  have hrn : bs.length - D = rest.length := by have := congrArg List.length HDR.out; rw [List.length_drop] at this; exact this
  simp only [hrn] at hrs ⊢
  generalize hn : 4 * z + 5 = n at *
  have HN := Lib.hid (show n ≤ 133 by omega)
  have hbM : Below w4.heap.size w4 (w4.alloc (.cells (Array.replicate z (Value.int .u8 0)) 5)) := (Below.refl _ _).alloc (Nat.le_refl _) _
  have kM := Blk.new w4 5 (Array.replicate z (Value.int .u8 0))
  have hsM : Sl (w4.alloc (.cells (Array.replicate z (Value.int .u8 0)) 5)) (.slice (some ⟨w4.heap.size, 0, none⟩) z z) ((List.replicate z (0 : Int)).map (Value.int .u8)) := by
    refine Sl.ofBlk (t := 5) ?_ z (by simp) (by rw [List.length_map, List.length_replicate]; unfold maxLen; omega)
    rw [List.map_replicate, List.toArray_replicate]; exact kM
  have HDG := Lib.hid (digits_short (List.replicate z 0) _ (fun x hx => by rw [List.eq_of_mem_replicate hx]; omega) (by simp; omega) _ hsM)
  have HDN := Lib.hid (show (digitsOf (List.replicate z (0 : Int))).length = n by rw [digits_len _ (by simp; omega), List.length_replicate]; exact hn)
  generalize digitsOf (List.replicate z (0 : Int)) = DG at *
  have kZ := kZ.belowS hbM
  have kS := kS.belowS hbM
  have hr4 := hr4.below hbM
  have hrs := hrs.below hbM (Nat.le_refl _)
  have hbr := below_trans2 hbr hbM
  clear hbM kM hsM hs4 hn
  go_wp2_with fail
  generalize (w4.alloc (.cells (Array.replicate z (Value.int .u8 0)) 5)) = w5 at *
  refine HDG.out.mono ?_
  rintro e w6 ⟨dv, rfl, hdv, hb6⟩
  obtain ⟨da, dc, rfl, hdc⟩ : ∃ a c, dv = .slice a n c ∧ n ≤ c := by
    obtain ⟨a, c, e, h1, _⟩ := hdv.shape
    rw [List.length_map, HDN.out] at e h1
    exact ⟨a, c, e, h1⟩
  have kZ := kZ.belowS hb6
  have kS := kS.belowS hb6
  have hr6 := hr4.below hb6
  have hrs := hrs.below hb6 (Nat.le_refl _)
  have hbr := below_trans2 hbr hb6
  clear hb6 hdv HDG HDN hr4 hmk
  go_wp2_with fail
  have HE := Lib.hid (crerr_any g _ _ w6 hr6)
  refine HE.out.mono ?_
  rintro e w7 ⟨rfl, rfl⟩
  by_cases he : err = 0
  rotate_left
  · have he' : (err != 0) = true := by simp [he]
    rw [if_pos he] at HC1
    have HNO := Lib.hid (show ¬ CC = 0 by rw [HC1.out]; exact he)
    have HBR := Lib.hid hbr
    obtain ⟨z0, z1, z2⟩ := rec3 kZ
    have f0 := kZ.frozen 0
    have f1 := kZ.frozen 1
    have f2 := kZ.frozen 2
    have hwz := kZ.lt
    clear he hbr
    go_wp2_with fail
    refine HE.out.mono ?_
    rintro e w7 ⟨rfl, rfl⟩
    go_wp2
    exact bodyPost_ret (by rw [results_cell_tmp2 rfl]; go_simp; exact rfl) rfl ⟨_, _, by rw [HC1.out], HPO.out _ _ _ ⟨fun h => absurd h HNO.out, fun _ => ⟨rfl, rfl⟩, set3_below HBR.out (Nat.le_refl _) (by omega) _ _ _⟩⟩
  subst he
  have he' : ((0 : Int) != 0) = false := rfl
  obtain ⟨M, hM⟩ : ∃ M : Nat, M = n + H := ⟨_, rfl⟩
  obtain ⟨T, hT⟩ : ∃ T : Nat, T = z * M := ⟨_, rfl⟩
  have hM1 : M ≤ 141 := by have := HN.out; omega
  have hT1 : T ≤ 4512 := by rw [hT]; exact Nat.le_trans (Nat.mul_le_mul hz.2 hM1) (by decide)
  have hMI : wrap64 ((n : Int) + (H : Int)) = (M : Int) := by rw [hM]; unfold wrap64; omega
  have hTI : wrap64 ((z : Int) * (M : Int)) = (T : Int) := by rw [show ((z : Int) * (M : Int)) = ((z * M : Nat) : Int) by simp, ← hT]; unfold wrap64; omega
  rw [← hM, ← hT] at HC1 HPO
  have HM := Lib.hid hM
  have HT := Lib.hid hT
  by_cases hsh : rest.length < T
  · have hshI : (rest.length : Int) < (T : Int) := Int.ofNat_lt.2 hsh
    rw [if_neg (by simp), if_pos hsh] at HC1
    have HBR := Lib.hid hbr
    obtain ⟨z0, z1, z2⟩ := rec3 kZ
    have f0 := kZ.frozen 0
    have f1 := kZ.frozen 1
    have f2 := kZ.frozen 2
    have hwz := kZ.lt
    clear hsh hbr hM hT
    go_wp2
    exact bodyPost_ret (by rw [results_cell_tmp2 rfl]; go_simp; exact rfl) rfl ⟨_, _, by rw [HC1.out], HPO.out _ _ _ ⟨fun h => by rw [HC1.out] at h; exact absurd h (by decide), fun _ => ⟨rfl, rfl⟩, set3_below HBR.out (Nat.le_refl _) (Nat.le_of_lt hwz) _ _ _⟩⟩
  have hshI : ¬ (rest.length : Int) < (T : Int) := fun h => hsh (Int.ofNat_lt.1 h)
  rw [if_neg (by simp), if_neg hsh] at HC1
  have HSH := Lib.hid (show T ≤ rest.length from Nat.le_of_not_lt hsh)
  have HRS := Lib.hid hrs
  have HM0 := Lib.hid (show MrS w w6 gs idx (.slice none 0 0) (.slice none 0 0) w6.heap.size [] [] from ⟨kS, kZ, OSls.nil _ _, OSls.nil _ _, fun g hg => by simp [Value.ownBlock] at hg, Nat.le_refl _, hbr.size, hbr, HGZ.out⟩)
  have HZ := Lib.hid hz
  have HT1 := Lib.hid hT1
  have HM1 := Lib.hid hM1
  have HHH := Lib.hid hH
  clear hsh hbr hM hT kZ kS hrs hr6 HE HLR HDR HDL HSS hD2 hrn hW hW2 hP1 hM1 hT1 hH hz he'
  go_wp2
  rw [show decide (rest.length < T) = false from decide_eq_false (Nat.not_lt.2 HSH.out), hMI, hTI]
  go_loopw [59] (fun i wr => ∃ (k Bq : Nat) (vp vq : Value), i = .int .i64 k ∧ k ≤ M ∧ MrS w wr gs idx vp vq Bq (chunksI z rest 0 (min k n)) (chunksI z rest n (k - n)) ∧ (k ≤ n → vq = .slice none 0 0) ∧ Sl wr (.slice ra rest.length rc) (rest.map (Value.int .u8))) (fun i _ => M - (intOf i).toNat)
  case atStart => exact ⟨0, _, _, _, rfl, by omega, by simpa [chunksI] using HM0.out, fun _ => rfl, HRS.out⟩
  case round =>
    obtain ⟨k, Bq, vp, vq, rfl, hk, hS, hq0, hrs⟩ := hrel
    by_cases hlt : k < M
    · have hkI : (k : Int) < (M : Int) := Int.ofNat_lt.2 hlt
      have HLT := Lib.hid hlt
      have HKW := Lib.hid (next_at hlt HM1.out)
      obtain ⟨q, r, hq, hr, hrT, hqr, hqI, hrI⟩ := piece_at hlt HT.out HT1.out
      obtain ⟨hch0, hchl⟩ := chunk_piece rest hq hr (Nat.le_trans hrT HSH.out)
      have HQR := Lib.hid (And.intro hqr (Nat.le_trans hrT HSH.out))
      have HCH := Lib.hid hch0
      have HRZ := Lib.hid hchl.symm
      have HCL := Lib.hid (show (chunkI z rest k).length ≤ 4512 from by rw [hchl]; exact Nat.le_trans (Nat.sub_le _ _) (Nat.le_trans hrT HT1.out))
      clear hq hr hrT hqr hlt hch0 hchl
      go_wp2_with (refine wpList_part rfl _ _ _ 25 5 rfl Tryd.underlying25 size8 _ q r _ rfl hrs (by first | rfl | (rw [← hqI]; rfl)) (by first | rfl | (rw [← hrI]; rfl)) HQR.out.1 (by have := HQR.out; simpa using this.2) ?_)
      intro ad ac hch
      rw [← List.map_drop, ← List.map_take, HCH.out] at hch
      have HCN := Lib.hid (sclone_own _ _ wr (by have := HCL.out; omega) hch)
      go_wp2_with fail
      refine HCN.out.mono ?_
      rintro e w2 ⟨xv, rfl, hxo, hb2⟩
      have hx := Sl.of_owns hxo
      obtain ⟨xa, xn, xc, rfl⟩ := hx.val
      have hS2 := hS.below hb2
      have hrs2 := hrs.below hb2 (Nat.le_refl _)
      have hbB : Below w2.heap.size w2 (w2.alloc (.cells #[.slice xa xn xc] 25)) := (Below.refl _ _).alloc (Nat.le_refl _) _
      have hx3 := hx.below hbB (Nat.le_refl _)
      have hrs3 := hrs2.below hbB (Nat.le_refl _)
      have hc2 := (Blk.new w2 25 #[.slice xa xn xc]).cell 0
      have hm1 := HM1.out
      clear hS hrs hb2 hxo hx hch hrs2 HCN hqI hrI
      by_cases hkn : k < n
      · obtain rfl := hq0 (Nat.le_of_lt hkn)
        have hknI : (k : Int) < (n : Int) := Int.ofNat_lt.2 hkn
        rw [Nat.min_eq_left (Nat.le_of_lt hkn), Nat.sub_eq_zero_of_le (Nat.le_of_lt hkn), show chunksI z rest n 0 = [] from rfl] at hS2
        have HSU := Lib.hid (show chunksI z rest 0 (k + 1) = chunksI z rest 0 k ++ [chunkI z rest k] by rw [chunksI_succ, Nat.zero_add])
        have HLN := Lib.hid (show (chunksI z rest 0 k).length + 1 ≤ 5000000000000 by rw [chunksI_len]; omega)
        have HKN := Lib.hid hkn
        generalize chunksI z rest 0 k = PL at *
        obtain ⟨pa, pc, rfl⟩ := hS2.hP.val
        have q1 : w2.cell? ⟨gs, 1, none⟩ = some (.slice pa PL.length pc) := hS2.kS.cell 1
        have HS3 := Lib.hid (hS2.below hbB)
        have HW2 := Lib.hid (show w.heap.size ≤ (w2.alloc (.cells #[.slice xa xn xc] 25)).heap.size from (HS3.out).bel.size)
        have HR3 := Lib.hid hrs3
        clear hkn hS2 hrs3 hm1
        go_wp2_with (at_builtin; refine wpList_append_text rfl _ _ rfl w.heap.size _ PL rfl HS3.out.hP w2.heap.size 1 rfl (.slice xa xn xc) hc2 _ hx3 HLN.out HW2.out ?_)
        intro l5 w5 hO5 hb5 hg5
        obtain ⟨a5, c5, rfl⟩ := hO5.val
        obtain ⟨f5, q5, hS5, hk5⟩ := HS3.out.app1 hO5 hg5 hb5
        have HS5 := Lib.hid hS5
        have HR5 := Lib.hid (hk5 _ _ HR3.out)
        clear hO5 hb5 hg5 hS5 hk5 hx3 hc2 q1
        generalize (PL ++ [chunkI z rest k]).length = lenX at *
        go_wp2
        go_roundw
        case rel => exact ⟨k + 1, _, _, _, by rw [HKW.out], HLT.out, by rw [Nat.min_eq_left HKN.out, Nat.sub_eq_zero_of_le HKN.out, HSU.out]; exact HS5.out, fun _ => rfl, HR5.out⟩
        case measure => rw [HKW.out]; have := HLT.out; simp [intOf]; omega
      · have hknI : ¬ (k : Int) < (n : Int) := fun h => hkn (Int.ofNat_lt.1 h)
        have hnk : n ≤ k := Nat.le_of_not_lt hkn
        rw [Nat.min_eq_right hnk] at hS2
        have HSU := Lib.hid (show chunksI z rest n (k + 1 - n) = chunksI z rest n (k - n) ++ [chunkI z rest k] by rw [show k + 1 - n = (k - n) + 1 by omega, chunksI_succ, show n + (k - n) = k by omega])
        have HLN := Lib.hid (show (chunksI z rest n (k - n)).length + 1 ≤ 5000000000000 by rw [chunksI_len]; omega)
        have HKN := Lib.hid hnk
        generalize chunksI z rest n (k - n) = QL at *
        generalize hPL : chunksI z rest 0 n = PL at *
        have HPL := Lib.hid hPL
        clear hPL
        obtain ⟨qa, qc, rfl⟩ := hS2.hQ.val
        have q2 : w2.cell? ⟨gs, 2, none⟩ = some (.slice qa QL.length qc) := hS2.kS.cell 2
        have HS3 := Lib.hid (hS2.below hbB)
        have HR3 := Lib.hid hrs3
        clear hkn hnk hS2 hrs3 hm1
        go_wp2_with (at_builtin; refine wpList_append_text rfl _ _ rfl Bq _ QL rfl HS3.out.hQ w2.heap.size 1 rfl (.slice xa xn xc) hc2 _ hx3 HLN.out HS3.out.le ?_)
        intro l5 w5 hO5 hb5 hg5
        obtain ⟨a5, c5, rfl⟩ := hO5.val
        obtain ⟨f5, q5, hS5, hk5⟩ := HS3.out.app2 hO5 hg5 hb5 HS3.out.lo
        have HS5 := Lib.hid hS5
        have HR5 := Lib.hid (hk5 _ _ HR3.out)
        clear hO5 hb5 hg5 hS5 hk5 hx3 hc2 q2
        generalize (QL ++ [chunkI z rest k]).length = lenX at *
        go_wp2
        go_roundw
        case rel => exact ⟨k + 1, _, _, _, by rw [HKW.out], HLT.out, by rw [Nat.min_eq_right (Nat.le_succ_of_le HKN.out), HSU.out, HPL.out]; exact HS5.out, fun h => absurd h (by have := HKN.out; omega), HR5.out⟩
        case measure => rw [HKW.out]; have := HLT.out; simp [intOf]; omega
    · have hkM : k = M := Nat.le_antisymm hk (Nat.le_of_not_lt hlt)
      subst hkM
      have hkI : ¬ (k : Int) < (k : Int) := fun h => absurd h (Int.lt_irrefl _)
      rw [HM.out, Nat.min_eq_right (Nat.le_add_right n H), Nat.add_sub_cancel_left] at hS
      obtain ⟨d0, d1, d2⟩ := rec3 hS.kS
      obtain ⟨z0, z1, z2⟩ := rec3 hS.kZ
      have HSS := Lib.hid hS
      have HR := Lib.hid hrs
      clear hS hrs hq0 hlt hk
      have HCLN := Lib.hid (clone_rest HR.out HSH.out HRL.out)
      have hTr : (T : Int) ≤ (rest.length : Int) := Int.ofNat_le.2 HSH.out
      obtain ⟨pa, pc, rfl⟩ := HSS.out.hP.val
      obtain ⟨qa, qc, rfl⟩ := HSS.out.hQ.val
      have hrc : (rest.length : Int) ≤ (rc : Int) := by
        obtain ⟨a, cap, e, h1, _⟩ := HR.out
        rw [List.length_map] at h1 e
        cases e
        exact Int.ofNat_le.2 h1
      generalize (chunksI z rest 0 n).length = lenP at *
      generalize (chunksI z rest n H).length = lenQ at *
      have hMI2 : IntKind.i64.wrap ((n : Int) + (H : Int)) = (k : Int) := wrap_of hMI
      have hTI2 : IntKind.i64.wrap ((z : Int) * (k : Int)) = (T : Int) := wrap_of hTI
      clear hMI hTI
      have HKS := Lib.hid (fun w' (h : Below wr.heap.size wr w') => (rec3 (HSS.out.kS.belowS h)))
      have hG := Lib.hid (HKS.out _ (Below.refl _ _))
      have HKZ := Lib.hid (fun w' (h : Below wr.heap.size wr w') => (rec3 (HSS.out.kZ.belowS h)))
      have HKF := Lib.hid (fun w' (h : Below wr.heap.size wr w') (i : Nat) => ((HSS.out.kZ.belowS h).frozen i))
      have hne1 : ¬ gs = w.heap.size := by have := HSS.out.zs; omega
      have hne2 : ¬ w.heap.size = gs := by have := HSS.out.zs; omega
      by_cases hcap : rc = T
      · rw [if_pos hcap, show rc - T = 0 by omega] at HCLN
        go_upto_region 19 with (fail)
        go_region_held3 (fun w' => w'.cell? ⟨gs, 0, none⟩ = some (.int .i64 idx) ∧ w'.cell? ⟨gs, 1, none⟩ = some (.slice pa lenP pc) ∧ w'.cell? ⟨gs, 2, none⟩ = some (.slice qa lenQ qc)) (first | exact hG.out | exact hG2.out) (first | (go_at_call 48; refine (HCLN.out _ (by first | exact Below.refl _ _ | exact (Below.refl _ _).drew)).mono ?_; rintro e w9 ⟨y9, rfl, hy9, hb9⟩; have hb9 : Below wr.heap.size wr w9 := ⟨hb9.os, hb9.tape, hb9.output, hb9.size, hb9.block⟩; have hG := Lib.hid (HKS.out _ hb9); obtain ⟨y0, y1, y2⟩ := HKZ.out _ hb9; have f0 := HKF.out _ hb9 0; have f1 := HKF.out _ hb9 1; have f2 := HKF.out _ hb9 2; have hG2 := Lib.hid (rec3 ((((HSS.out.kS.belowS hb9).far (p := ⟨w.heap.size, 0, none⟩) hne1 (.int .i64 idx)).far (p := ⟨w.heap.size, 1, none⟩) hne1 (.slice pa lenP pc)).far (p := ⟨w.heap.size, 2, none⟩) hne1 (.slice qa lenQ qc)))))
        go_wp2
        exact bodyPost_ret (by rw [results_cell_tmp2 rfl]; go_simp; exact rfl) rfl ⟨_, _, by rw [HC1.out], HPO.out _ _ _ ⟨fun _ => (HSS.out.stored hb9 hy9 _ _ _).1, fun h => absurd HC1.out h, (HSS.out.stored hb9 hy9 _ _ _).2⟩⟩
      · rw [if_neg hcap] at HCLN
        go_upto_region 19 with (fail)
        go_region_held3 (fun w' => w'.cell? ⟨gs, 0, none⟩ = some (.int .i64 idx) ∧ w'.cell? ⟨gs, 1, none⟩ = some (.slice pa lenP pc) ∧ w'.cell? ⟨gs, 2, none⟩ = some (.slice qa lenQ qc)) (first | exact hG.out | exact hG2.out) (first | (go_at_call 48; refine (HCLN.out _ (by first | exact Below.refl _ _ | exact (Below.refl _ _).drew)).mono ?_; rintro e w9 ⟨y9, rfl, hy9, hb9⟩; have hb9 : Below wr.heap.size wr w9 := ⟨hb9.os, hb9.tape, hb9.output, hb9.size, hb9.block⟩; have hG := Lib.hid (HKS.out _ hb9); obtain ⟨y0, y1, y2⟩ := HKZ.out _ hb9; have f0 := HKF.out _ hb9 0; have f1 := HKF.out _ hb9 1; have f2 := HKF.out _ hb9 2; have hG2 := Lib.hid (rec3 ((((HSS.out.kS.belowS hb9).far (p := ⟨w.heap.size, 0, none⟩) hne1 (.int .i64 idx)).far (p := ⟨w.heap.size, 1, none⟩) hne1 (.slice pa lenP pc)).far (p := ⟨w.heap.size, 2, none⟩) hne1 (.slice qa lenQ qc)))))
        go_wp2
        exact bodyPost_ret (by rw [results_cell_tmp2 rfl]; go_simp; exact rfl) rfl ⟨_, _, by rw [HC1.out], HPO.out _ _ _ ⟨fun _ => (HSS.out.stored hb9 hy9 _ _ _).1, fun h => absurd HC1.out h, (HSS.out.stored hb9 hy9 _ _ _).2⟩⟩

end Go.Proofs.YtjhannlioddkkaaDoor

namespace Go.Proofs.YtjhannlioddkkaaDoor
open Go.RowKit
set_option linter.unusedVariables false

set_option maxRecDepth 100000 in
set_option maxHeartbeats 2000000 in
theorem rmread_no (size height : Int) (v : Value) (bs : List Int) (w : World) (hcan : mcanB size height = false) (hs : Sl w v (bs.map (Value.int .u8))) :
    Calls Tryd.prog 11 #[.int .i64 size, .int .i64 height, v] w fun e w' => ∃ x y, e = .returned (.tuple #[x, y, .int .i64 (mrC size height bs)]) ∧ MrRes w w' size height bs x y := by
  obtain ⟨va, vc, rfl, hc, hm⟩ := hs.shape
  rw [List.length_map] at *
  have hb1 : Below w.heap.size w (w.alloc (.cells #[.int .i64 0, .slice none 0 0, .slice none 0 0] 24)) := (Below.refl _ _).alloc (Nat.le_refl _) _
  have kZ := Blk.new w 24 #[.int .i64 0, .slice none 0 0, .slice none 0 0]
  have HSZ := Lib.hid (show w.heap.size ≤ (w.alloc (.cells #[.int .i64 0, .slice none 0 0, .slice none 0 0] 24)).heap.size by simp)
  have hC1 : mrC size height bs = 1 := by unfold mrC; rw [if_pos hcan]
  have HC1 := Lib.hid hC1
  have HB1 := Lib.hid hb1
  obtain ⟨z0, z1, z2⟩ := rec3 kZ
  have f0 := kZ.frozen 0
  have f1 := kZ.frozen 1
  have f2 := kZ.frozen 2
  have hcan' : ¬ (1 ≤ size ∧ size ≤ 32 ∧ 0 ≤ height ∧ height ≤ 8) := by unfold mcanB at hcan; exact of_decide_eq_false hcan
  clear hC1 hcan hs hb1 kZ
  have key : size < 1 ∨ (¬ size < 1 ∧ 32 < size) ∨ (¬ size < 1 ∧ ¬ 32 < size ∧ height < 0) ∨ (¬ size < 1 ∧ ¬ 32 < size ∧ ¬ height < 0 ∧ 8 < height) := by omega
  clear hcan'
  go_enter Tryd.func11, Tryd.ntmps11
  go_upto_region 1 with (fail)
  generalize (w.alloc (.cells #[.int .i64 0, .slice none 0 0, .slice none 0 0] 24)) = w1 at *
  rcases key with h | ⟨h1, h⟩ | ⟨h1, h2, h⟩ | ⟨h1, h2, h3, h⟩
  all_goals
    go_wp2
    exact bodyPost_ret (by rw [results_cell_tmp2 rfl]; go_simp; exact rfl) rfl ⟨_, _, by rw [HC1.out], MrRes.no (set3_below HB1.out (Nat.le_refl _) HSZ.out _ _ _) (by rw [HC1.out]; decide)⟩

set_option maxRecDepth 100000 in
set_option maxHeartbeats 8000000 in
theorem rmread_any (size height : Int) (v : Value) (bs : List Int) (w : World) (hz0 : -9223372036854775808 ≤ size) (hz1 : size ≤ 9223372036854775807) (hh0 : -9223372036854775808 ≤ height) (hh1 : height ≤ 9223372036854775807) (hl : bs.length ≤ 140737488351232) (hB : IsB bs) (hs : Sl w v (bs.map (Value.int .u8))) :
    Calls Tryd.prog 11 #[.int .i64 size, .int .i64 height, v] w fun e w' => ∃ x y, e = .returned (.tuple #[x, y, .int .i64 (mrC size height bs)]) ∧ MrRes w w' size height bs x y := by
  by_cases hcan : mcanB size height = true
  rotate_left
  · exact rmread_no size height v bs w (by simpa using hcan) hs
  obtain ⟨va, vc, rfl, hc, hm⟩ := hs.shape
  rw [List.length_map] at *
  have hb1 : Below w.heap.size w (w.alloc (.cells #[.int .i64 0, .slice none 0 0, .slice none 0 0] 24)) := (Below.refl _ _).alloc (Nat.le_refl _) _
  have kZ := Blk.new w 24 #[.int .i64 0, .slice none 0 0, .slice none 0 0]
  have hs1 := hs.below hb1 (Nat.le_refl _)
  have hsz1 : (w.alloc (.cells #[.int .i64 0, .slice none 0 0, .slice none 0 0] 24)).heap.size = w.heap.size + 1 := by simp
  have HLL := Lib.hid hl
  have HB := Lib.hid hB
  clear hs hl hB
  have hcan' : 1 ≤ size ∧ size ≤ 32 ∧ 0 ≤ height ∧ height ≤ 8 := by unfold mcanB at hcan; exact of_decide_eq_true hcan
  obtain ⟨z, rfl⟩ : ∃ z : Nat, size = z := ⟨size.toNat, by omega⟩
  obtain ⟨H, rfl⟩ : ∃ H : Nat, height = H := ⟨height.toNat, by omega⟩
  have hz : 1 ≤ z ∧ z ≤ 32 := by omega
  have hH : H ≤ 8 := by omega
  obtain ⟨P, hP⟩ : ∃ P : Nat, P = 2 ^ H := ⟨_, rfl⟩
  have hP1 : 1 ≤ P ∧ P ≤ 256 := by rw [hP]; exact ⟨Nat.one_le_two_pow, Nat.pow_le_pow_right (by omega) hH⟩
  have hPI : ((2 : Int) ^ H) = (P : Int) := by rw [show ((2 : Int) ^ H) = ((2 ^ H : Nat) : Int) by simp, ← hP]
  have hW : wrap64 ((2 : Int) ^ H) = (P : Int) := by rw [hPI]; unfold wrap64; omega
  have hW2 : wrap64 ((P : Int) - 1) = (P : Int) - 1 := by unfold wrap64; omega
  have hMU : mrU H bs = uI ((P : Int) - 1) bs 0 := by unfold mrU; rw [hPI]
  have hC1 : mrC z H bs = if (mrU H bs).2.2 ≠ 0 then (mrU H bs).2.2 else if (mrU H bs).2.1.length < z * (4 * z + 5 + H) then 3 else 0 := by unfold mrC mrNeed; rw [if_neg (by simp [hcan])]; simp
  have HPO : Hid (∀ (w' : World) (x y : Value), ((mrC z H bs = 0 → SigV w' x (mrU H bs).1 (chunksI z (mrU H bs).2.1 0 (4 * z + 5)) (chunksI z (mrU H bs).2.1 (4 * z + 5) H) ∧ Sl w' y (((mrU H bs).2.1.drop (z * (4 * z + 5 + H))).map (Value.int .u8))) ∧
      (¬ mrC z H bs = 0 → x = .agg #[.int .i64 0, .slice none 0 0, .slice none 0 0] ∧ y = .slice none 0 0) ∧ Below w.heap.size w w') → MrRes w w' z H bs x y) := fun w' x y h => by
    unfold MrRes mrParts mrPath mrNeed
    simpa using h
  have HLR := Lib.hid (suf_len (uI_left ((P : Int) - 1) bs 0))
  have HRU := Lib.hid (fun (g : Nat) (w1 : World) (h : RRd w1 g bs 0) => refRuint_any g bs 0 ((P : Int) - 1) w1 HB.out HLL.out h)
  rw [← hMU] at HRU HLR
  have HC1 := Lib.hid hC1
  generalize mrU H bs = U at *
  obtain ⟨idx, rest, err⟩ := U
  simp only at HC1 HPO HRU HLR
  generalize mrC z H bs = CC at *
  obtain ⟨t1, t2, t3⟩ := tk_two z (4 * z + 5) H rest err
  have HT1 := Lib.hid t1
  have HT2 := Lib.hid t2
  have HT3 := Lib.hid t3
  generalize hn : 4 * z + 5 = n at *
  have HN := Lib.hid (show n ≤ 133 by omega)
  have hni : 4 * (z : Int) + 5 = (n : Int) := by omega
  have HZL := Lib.hid hz
  clear hcan hcan' hP hPI hMU hC1 t1 t2 t3 hn
  go_enter Tryd.func11, Tryd.ntmps11
  go_upto_region 3 with (fail)
  have HSZ := Lib.hid hsz1
  clear hsz1
  generalize (w.alloc (.cells #[.int .i64 0, .slice none 0 0, .slice none 0 0] 24)) = w1 at *
  have hbE : Below w1.heap.size w1 (w1.alloc (.cells #[] 5)) := (Below.refl _ _).alloc (Nat.le_refl _) _
  have hown0 : (w1.alloc (.cells #[] 5)).ownsRow w1.heap.size 5 1 (.slice (some ⟨w1.heap.size, 0, none⟩) 0 0) 0 [] :=
    World.ownsRow_lit (base := w1.heap.size) (e := 5) (size := 1) w1 #[] 0 (Nat.le_refl _) (by simp [maxLen]) (by simp)
  have hsE := hs1.below hbE (Nat.le_refl _)
  obtain ⟨i0, hi, hz0', hz1', hz2'⟩ := info_parts info8c
  go_wp2_with (at_builtin; refine wpList_append_sl rfl _ _ 25 rfl w1.heap.size 5 i0 (.int .u8 0) 1 Tryd.underlying25 hi hz0' hz1' hz2' rfl _ 0 [] rfl hown0 (.slice va bs.length vc) (bs.map (Value.int .u8)) rfl hsE (one8 _) (by have := HLL.out; rw [List.length_map]; unfold maxLen; omega) (by have := HLL.out; rw [List.length_map]; omega) (by simp) ?_)
  intro xv w2 hown2 hg2
  have hb2 := below_grown hbE hown0 (Nat.le_refl _) (by simp) hg2
  have hxv : Sl w2 xv (bs.map (Value.int .u8)) := by simpa using Sl.of_owns hown2
  obtain ⟨xa, xn, xc, rfl⟩ := hxv.val
  have hbr := hb1.trans (hb2.mono hb1.size)
  have kZ := kZ.belowS hb2
  have hgP : Hid (w.heap.size < w2.heap.size) := by have := hb2.size; have := HSZ.out; show _ < _; omega
  have hbR : Below w2.heap.size w2 (w2.alloc (.cells #[.slice xa xn xc, .int .i64 0] 91)) := (Below.refl _ _).alloc (Nat.le_refl _) _
  have hr3 : RRd (w2.alloc (.cells #[.slice xa xn xc, .int .i64 0] 91)) w2.heap.size bs 0 := ⟨_, Blk.new w2 _ _, hxv.below hbR (Nat.le_refl _)⟩
  have kZ := kZ.belowS hbR
  have hbr := hbr.trans (hbR.mono hbr.size)
  have hgl3 : w2.heap.size < (w2.alloc (.cells #[.slice xa xn xc, .int .i64 0] 91)).heap.size := by simp
  have HU := Lib.hid (HRU.out w2.heap.size _ hr3)
  clear hown2 hg2 hbE hown0 hsE hb1 hb2 hs1 hxv hbR hr3 HRU
  go_wp2_with fail
  refine HU.out.mono ?_
  generalize (w2.alloc (.cells #[.slice xa xn xc, .int .i64 0] 91)) = w3 at *
  generalize w2.heap.size = g at *
  rintro e w4 ⟨rfl, hr4, hg4⟩
  have kZ := kZ.grown hg4 (by intro e; cases e; exact absurd hgP.out (Nat.lt_irrefl _))
  have hbr := below_of_only hbr hg4 (Nat.le_of_lt hgP.out) hbr.size
  have hgl4 : g < w4.heap.size := Nat.lt_of_lt_of_le hgl3 hg4.size
  have hbG : Below w4.heap.size w4 (w4.alloc (.cells #[.int .i64 idx, .slice none 0 0, .slice none 0 0] 24)) := (Below.refl _ _).alloc (Nat.le_refl _) _
  have HM0 := Lib.hid (show MrrS w (w4.alloc (.cells #[.int .i64 idx, .slice none 0 0, .slice none 0 0] 24)) g w4.heap.size idx (.slice none 0 0) (.slice none 0 0) (w4.alloc (.cells #[.int .i64 idx, .slice none 0 0, .slice none 0 0] 24)).heap.size (tkN z 0 ([], rest, err)).1 [] (tkN z 0 ([], rest, err)).2.1 (tkN z 0 ([], rest, err)).2.2 from
    ⟨⟨Blk.new w4 _ _, kZ.belowS hbG, OSls.nil _ _, OSls.nil _ _, fun g hg => by simp [Value.ownBlock] at hg, Nat.le_refl _, (below_trans2 hbr hbG).size, below_trans2 hbr hbG, by have := hgP.out; omega⟩, hr4.belowR hbG, by omega, hgP.out⟩)
  clear hr4 hg4 kZ hbr hbG hgl3 hgl4 HU hz hW2 hP1
  go_upto_region 5 with (fail)
  generalize (w4.alloc (.cells #[.int .i64 idx, .slice none 0 0, .slice none 0 0] 24)) = w5 at *
  generalize w4.heap.size = gs at *
  go_wp2
  clear hW hni
  go_loopw [40] (fun i wr => ∃ (k Bq : Nat) (vp : Value), i = .int .i64 k ∧ k ≤ n ∧ MrrS w wr g gs idx vp (.slice none 0 0) Bq (tkN z k ([], rest, err)).1 [] (tkN z k ([], rest, err)).2.1 (tkN z k ([], rest, err)).2.2) (fun i _ => n - (intOf i).toNat)
  case atStart => exact ⟨0, _, _, rfl, by omega, HM0.out⟩
  case round =>
    clear HM0
    obtain ⟨k, Bq, vp, rfl, hk, hS⟩ := hrel
    by_cases hlt : k < n
    · have hkI : (k : Int) < (n : Int) := by omega
      have HLT := Lib.hid hlt
      have HKW := Lib.hid (next_at (M := n) hlt (by have := HN.out; omega))
      have HLK := Lib.hid (show (tkN z k ([], rest, err)).1.length + 1 ≤ 5000000000000 by rw [tkN_len]; have := HN.out; simp only [List.length_nil]; omega)
      have HSL := Lib.hid (show (tkN z k ([], rest, err)).2.1.length ≤ 140737488351232 from Nat.le_trans (tkN_suf z k ([], rest, err)) (Nat.le_trans HLR.out HLL.out))
      have HST := Lib.hid (show tkN z (k + 1) ([], rest, err) = tkStep z (tkN z k ([], rest, err)) from rfl)
      generalize tkN z k ([], rest, err) = st at *
      obtain ⟨s1, s2, s3⟩ := st
      simp only at hS HSL HLK
      have hgr2 : w.heap.size ≤ wr.heap.size := hS.ms.bel.size
      obtain ⟨oa, oc, rfl⟩ := hS.ms.hP.val
      have q0 : wr.cell? ⟨gs, 1, none⟩ = some (.slice oa s1.length oc) := hS.ms.kS.cell 1
      have HX := Lib.hid (fun w1 (hb1 : Below wr.heap.size wr w1) => refTake_any g s2 s3 z w1 (by have := HZL.out; omega) HSL.out (hS.below hb1).hr)
      have HDk := Lib.hid (fun w1 (hb1 : Below wr.heap.size wr w1) => hS.below hb1)
      have HBI := Lib.hid (show tkStep z (s1, s2, s3) = (s1 ++ [(tkI z s2 s3).1], (tkI z s2 s3).2.1, (tkI z s2 s3).2.2) from rfl)
      generalize hbI : tkI z s2 s3 = bi at *
      obtain ⟨Pc, P2, P3⟩ := bi
      clear hbI hS hlt hk
      go_wp2
      go_region_law (first
        | (refine step_append_textR rfl (.tmp 43) (.tmp 47) rfl w.heap.size _ s1 rfl hD3.ms.hP w2'.heap.size 1 rfl (.slice xa' xn' xc') hc2 Pc hx2 HLK.out (Nat.le_trans hgr2 (Nat.le_trans hsz2 hbA.size)) ?_; intro l5 w5 hO5 hb5 hg5; obtain ⟨a5, c5, rfl⟩ := hO5.val; obtain ⟨f5, q5, hD5⟩ := hD3.app1 hO5 hg5 hb5)
        | (go_simp; go_at_call 50; refine (HX.out _ (by first | exact Below.refl _ _ | exact (Below.refl _ _).drew)).mono ?_; rintro e w2' ⟨x1, rfl, hx1, hR⟩; obtain ⟨xa', xn', xc', rfl⟩ := hx1.val; have hsz2 : wr.heap.size ≤ w2'.heap.size := hR.2.size; have hD2 := MrrS.read (HDk.out _ (by first | exact Below.refl _ _ | exact (Below.refl _ _).drew)) hR; have q7 : w2'.cell? ⟨gs, 1, none⟩ = some (.slice oa s1.length oc) := hD2.ms.kS.cell 1; have hbA : Below w2'.heap.size w2' (w2'.alloc (.cells #[.slice xa' xn' xc'] 25)) := (Below.refl _ _).alloc (Nat.le_refl _) _; have hD3 := hD2.below hbA; have q8 : (w2'.alloc (.cells #[.slice xa' xn' xc'] 25)).cell? ⟨gs, 1, none⟩ = some (.slice oa s1.length oc) := hD3.ms.kS.cell 1; have hx2 := hx1.below hbA (Nat.le_refl _); have hc2 := (Blk.new w2' 25 #[.slice xa' xn' xc']).cell 0))
      all_goals go_wp2
      all_goals go_roundw
      all_goals first
        | exact ⟨k + 1, _, _, by rw [HKW.out], HLT.out, by rw [HST.out, HBI.out]; have hD6 := hD5; rw [List.length_append, List.length_singleton] at hD6; exact hD6⟩
        | (rw [HKW.out]; have := HLT.out; simp [intOf]; omega)
    · obtain rfl : k = n := Nat.le_antisymm hk (Nat.le_of_not_lt hlt)
      have hkI : ¬ (k : Int) < (k : Int) := Int.lt_irrefl _
      have hS := hS.rebase
      generalize wr = wz at *
      obtain ⟨vpa, vpc, rfl⟩ := hS.ms.hP.val
      have HNL := Lib.hid (Nat.le_trans (tkN_suf z k ([], rest, err)) (Nat.le_trans HLR.out HLL.out))
      generalize tkN z k ([], rest, err) = S1 at *
      obtain ⟨PL, r1, e1⟩ := S1
      simp only at hS HT1 HT2 HT3 HNL
      have HM0 := Lib.hid (show MrrS w wz g gs idx (.slice vpa PL.length vpc) (.slice none 0 0) wz.heap.size PL (tkN z 0 ([], r1, e1)).1 (tkN z 0 ([], r1, e1)).2.1 (tkN z 0 ([], r1, e1)).2.2 from hS)
      have HBQ := Lib.hid (show w.heap.size ≤ wz.heap.size from hS.ms.bel.size)
      generalize wz.heap.size = Bz at *
      clear hS hlt hk
      go_wp2
      go_loopw [52] (fun i wr => ∃ (j : Nat) (vq : Value), i = .int .i64 j ∧ j ≤ H ∧ MrrS w wr g gs idx (.slice vpa PL.length vpc) vq Bz PL (tkN z j ([], r1, e1)).1 (tkN z j ([], r1, e1)).2.1 (tkN z j ([], r1, e1)).2.2) (fun i _ => H - (intOf i).toNat)
      case atStart => exact ⟨0, _, rfl, by omega, HM0.out⟩
      case round =>
        clear HM0
        obtain ⟨j, vq, rfl, hk, hS⟩ := hrel
        by_cases hlt : j < H
        · have hjI : (j : Int) < (H : Int) := by omega
          have HLT := Lib.hid hlt
          have HKW := Lib.hid (next_at (M := H) hlt (by omega))
          have HLK := Lib.hid (show (tkN z j ([], r1, e1)).1.length + 1 ≤ 5000000000000 by rw [tkN_len]; simp only [List.length_nil]; omega)
          have HSL := Lib.hid (show (tkN z j ([], r1, e1)).2.1.length ≤ 140737488351232 from Nat.le_trans (tkN_suf z j ([], r1, e1)) HNL.out)
          have HST := Lib.hid (show tkN z (j + 1) ([], r1, e1) = tkStep z (tkN z j ([], r1, e1)) from rfl)
          generalize tkN z j ([], r1, e1) = st at *
          obtain ⟨s1, s2, s3⟩ := st
          simp only at hS HSL HLK
          have hgr2 : Bz ≤ wr.heap.size := hS.ms.le
          obtain ⟨oa, oc, rfl⟩ := hS.ms.hQ.val
          have q0 : wr.cell? ⟨gs, 2, none⟩ = some (.slice oa s1.length oc) := hS.ms.kS.cell 2
          have HX := Lib.hid (fun w1 (hb1 : Below wr.heap.size wr w1) => refTake_any g s2 s3 z w1 (by have := HZL.out; omega) HSL.out (hS.below hb1).hr)
          have HDk := Lib.hid (fun w1 (hb1 : Below wr.heap.size wr w1) => hS.below hb1)
          have HBI := Lib.hid (show tkStep z (s1, s2, s3) = (s1 ++ [(tkI z s2 s3).1], (tkI z s2 s3).2.1, (tkI z s2 s3).2.2) from rfl)
          generalize hbI : tkI z s2 s3 = bi at *
          obtain ⟨Pc, P2, P3⟩ := bi
          clear hbI hS hlt hk
          go_wp2
          go_region_law (first
            | (refine step_append_textR rfl (.tmp 55) (.tmp 59) rfl Bz _ s1 rfl hD3.ms.hQ w2'.heap.size 1 rfl (.slice xa' xn' xc') hc2 Pc hx2 HLK.out (Nat.le_trans hgr2 (Nat.le_trans hsz2 hbA.size)) ?_; intro l5 w5 hO5 hb5 hg5; obtain ⟨a5, c5, rfl⟩ := hO5.val; obtain ⟨f5, q5, hD5⟩ := hD3.app2 hO5 hg5 hb5)
            | (go_simp; go_at_call 50; refine (HX.out _ (by first | exact Below.refl _ _ | exact (Below.refl _ _).drew)).mono ?_; rintro e w2' ⟨x1, rfl, hx1, hR⟩; obtain ⟨xa', xn', xc', rfl⟩ := hx1.val; have hsz2 : wr.heap.size ≤ w2'.heap.size := hR.2.size; have hD2 := MrrS.read (HDk.out _ (by first | exact Below.refl _ _ | exact (Below.refl _ _).drew)) hR; have q7 : w2'.cell? ⟨gs, 2, none⟩ = some (.slice oa s1.length oc) := hD2.ms.kS.cell 2; have hbA : Below w2'.heap.size w2' (w2'.alloc (.cells #[.slice xa' xn' xc'] 25)) := (Below.refl _ _).alloc (Nat.le_refl _) _; have hD3 := hD2.below hbA; have q8 : (w2'.alloc (.cells #[.slice xa' xn' xc'] 25)).cell? ⟨gs, 2, none⟩ = some (.slice oa s1.length oc) := hD3.ms.kS.cell 2; have hx2 := hx1.below hbA (Nat.le_refl _); have hc2 := (Blk.new w2' 25 #[.slice xa' xn' xc']).cell 0))
          all_goals go_wp2
          all_goals go_roundw
          all_goals first
            | exact ⟨j + 1, _, by first | rw [HKW.out] | go_num, HLT.out, by rw [HST.out, HBI.out]; have hD6 := hD5; rw [List.length_append, List.length_singleton] at hD6; exact hD6⟩
            | (rw [HKW.out]; have := HLT.out; simp [intOf]; omega)
            | (have := HLT.out; simp [intOf]; omega)
        · obtain rfl : j = H := Nat.le_antisymm hk (Nat.le_of_not_lt hlt)
          have hjI : ¬ (j : Int) < (j : Int) := Int.lt_irrefl _
          generalize wr = wy at *
          obtain ⟨vqa, vqc, rfl⟩ := hS.ms.hQ.val
          generalize tkN z j ([], r1, e1) = S2 at *
          obtain ⟨QL, r2, e2⟩ := S2
          simp only at hS HT1 HT2 HT3
          have HCE := Lib.hid (show CC = e2 from by
            rw [HC1.out]
            by_cases he : err = 0
            · rw [if_neg (by simp [he])]
              by_cases hsh : rest.length < z * (k + j)
              · rw [if_pos hsh]; exact (HT2.out he (by omega)).symm
              · rw [if_neg hsh]
                have := (HT3.out he (by omega)).2
                simp only [Prod.mk.injEq] at this
                exact this.2.2.symm
            · rw [if_pos he]; exact (HT1.out he).symm)
          obtain ⟨rva, rvc, hrk, hrs⟩ := hS.hr.val
          have HRK := Lib.hid hrk
          have HRS := Lib.hid hrs
          have HS := Lib.hid hS
          obtain ⟨z0, z1, z2⟩ := rec3 hS.ms.kZ
          have f0 := hS.ms.kZ.frozen 0
          have f1 := hS.ms.kZ.frozen 1
          have f2 := hS.ms.kZ.frozen 2
          have k0 : wy.cell? ⟨g, 0, none⟩ = some (.slice rva r2.length rvc) := hrk.cell 0
          have k1 : wy.cell? ⟨g, 1, none⟩ = some (.int .i64 e2) := hrk.cell 1
          have hne1 : ¬ gs = w.heap.size := by have := HS.out.ms.zs; omega
          have hne2 : ¬ w.heap.size = gs := by have := HS.out.ms.zs; omega
          have hne3 : ¬ g = w.heap.size := by have := HS.out.h2; omega
          have hne4 : ¬ w.heap.size = g := by have := HS.out.h2; omega
          clear hrk hrs hlt hk
          by_cases he : e2 = 0
          rotate_left
          · have he' : (e2 != 0) = true := by simp [he]
            have HNO := Lib.hid (show ¬ CC = 0 from fun h => he (by rw [← HCE.out]; exact h))
            clear he hS
            have hG := Lib.hid k1
            have hG2 := Lib.hid ((((HRK.out.far (p := ⟨w.heap.size, 0, none⟩) hne3 (.int .i64 0)).far (p := ⟨w.heap.size, 1, none⟩) hne3 (.slice none 0 0)).far (p := ⟨w.heap.size, 2, none⟩) hne3 (.slice none 0 0)).cell 1)
            go_upto_region 14 with (fail)
            go_region_held3 (fun w' => w'.cell? ⟨g, 1, none⟩ = some (.int .i64 e2)) (first | exact hG.out | exact hG2.out) (first | fail)
            have hbz := (set3_below HS.out.ms.bel (Nat.le_refl _) HS.out.ms.bel.size (.int .i64 0) (.slice none 0 0) (.slice none 0 0)).drew
            have HCE2 := Lib.hid (HCE.out.symm)
            clear hG hG2 HRK HRS HS
            go_wp2
            exact bodyPost_ret (by rw [results_cell_tmp2 rfl]; go_simp; exact rfl) rfl ⟨_, _, by rw [HCE2.out], HPO.out _ _ _ ⟨fun h => absurd h HNO.out, fun _ => ⟨rfl, rfl⟩, hbz⟩⟩
          subst he
          have he' : ((0 : Int) != 0) = false := rfl
          have HOKc := Lib.hid HCE.out
          have herr : err = 0 := by
            rcases Int.decEq err 0 with h | h
            · exact absurd (HT1.out h) (fun h2 => h h2.symm)
            · exact h
          have hlen : z * (k + j) ≤ rest.length := by
            rcases Nat.lt_or_ge rest.length (z * (k + j)) with h | h
            · exact absurd (HT2.out herr (by omega)) (by decide)
            · exact h
          obtain ⟨hPL, hQL⟩ := HT3.out herr hlen
          simp only [Prod.mk.injEq] at hQL
          obtain ⟨hQ1, hQ2, -⟩ := hQL
          obtain ⟨d0, d1, d2⟩ := rec3 hS.ms.kS
          generalize PL.length = lenP at *
          generalize QL.length = lenQ at *
          generalize hr2 : r2.length = lenR at *
          have HFS := Lib.hid hS
          rw [hPL, hQ1] at HFS
          have HRS2 := Lib.hid HRS.out
          rw [hQ2] at HRS2
          clear hS hPL hQ1 hQ2 herr hlen
          have hG := Lib.hid (And.intro d0 (And.intro d1 (And.intro d2 k0)))
          have hkS2 := ((HS.out.ms.kS.far (p := ⟨w.heap.size, 0, none⟩) hne1 (.int .i64 idx)).far (p := ⟨w.heap.size, 1, none⟩) hne1 (.slice vpa lenP vpc)).far (p := ⟨w.heap.size, 2, none⟩) hne1 (.slice vqa lenQ vqc)
          have hkR2 := ((HRK.out.far (p := ⟨w.heap.size, 0, none⟩) hne3 (.int .i64 idx)).far (p := ⟨w.heap.size, 1, none⟩) hne3 (.slice vpa lenP vpc)).far (p := ⟨w.heap.size, 2, none⟩) hne3 (.slice vqa lenQ vqc)
          obtain ⟨m0, m1, m2⟩ := rec3 hkS2
          have hG2 := Lib.hid (And.intro m0 (And.intro m1 (And.intro m2 (hkR2.cell 0))))
          clear hkS2 hkR2 m0 m1 m2 hr2
          go_upto_region 15 with (fail)
          go_region_held3 (fun w' => w'.cell? ⟨gs, 0, none⟩ = some (.int .i64 idx) ∧ w'.cell? ⟨gs, 1, none⟩ = some (.slice vpa lenP vpc) ∧ w'.cell? ⟨gs, 2, none⟩ = some (.slice vqa lenQ vqc) ∧ w'.cell? ⟨g, 0, none⟩ = some (.slice rva lenR rvc)) (first | exact hG.out | exact hG2.out) (first | fail)
          have hst := HFS.out.ms.stored (Below.refl _ _) HRS2.out (.int .i64 idx) (.slice vpa lenP vpc) (.slice vqa lenQ vqc)
          have HF1 := Lib.hid (hst.1.1.below ((Below.refl _ _).drew) (Nat.le_refl _))
          have HF2 := Lib.hid (hst.1.2.below ((Below.refl _ _).drew) (Nat.le_refl _))
          have hbz := hst.2.drew
          clear hst hG hG2
          go_wp2
          exact bodyPost_ret (by rw [results_cell_tmp2 rfl]; go_simp; exact rfl) rfl ⟨_, _, by rw [HOKc.out], HPO.out _ _ _ ⟨fun _ => ⟨HF1.out, HF2.out⟩, fun h => absurd HOKc.out h, hbz⟩⟩

end Go.Proofs.YtjhannlioddkkaaDoor

namespace Go.Proofs.YtjhannlioddkkaaDoor
open Go.RowKit
set_option linter.unusedVariables false

theorem Sl.convM {w : World} {v : Value} {xs : List Int} (h : Sl w v (xs.map (Value.int .u8))) : ∀ n, (convert 25 9 v).run Tryd.prog (w.drewN n) = .ok (.string (strOfNums xs)) (w.drewN n) :=
  fun n => (h.below (below_drewN (Below.refl w.heap.size w) n) (Nat.le_refl _)).conv

set_option maxHeartbeats 2000000 in
theorem rsame_any (v1 v2 : Value) (ep ti : Int) (tr : List Int) (co : Int) (li : List Int) (ln : List (List Int)) (w : World) (hr1 : RecV w v1 ep ti tr co li ln) (hr2 : RecV w v2 ep ti tr co li ln) :
    Calls Tryd.prog 21 #[v1, v2] w fun e w' => e = .returned (.bool true) ∧ Below w.heap.size w w' := by
  obtain ⟨vt1, vl1, vk1, rfl, t1, l1, k1⟩ := hr1
  obtain ⟨vt2, vl2, vk2, rfl, t2, l2, k2⟩ := hr2
  obtain ⟨t1a, t1n, t1c, rfl⟩ := t1.val
  obtain ⟨t2a, t2n, t2c, rfl⟩ := t2.val
  obtain ⟨l1a, l1n, l1c, rfl⟩ := l1.val
  obtain ⟨l2a, l2n, l2c, rfl⟩ := l2.val
  obtain ⟨k1a, k1c, rfl, hk1c, hk1m⟩ := k1.shape
  obtain ⟨k2a, k2c, rfl, hk2c, hk2m⟩ := k2.shape
  have hb2 : Below w.heap.size w ((w.alloc (.cells #[.int .i64 ep, .int .i64 ti, .slice t1a t1n t1c, .int .i64 co, .slice l1a l1n l1c, .slice k1a ln.length k1c] 35)).alloc (.cells #[.int .i64 ep, .int .i64 ti, .slice t2a t2n t2c, .int .i64 co, .slice l2a l2n l2c, .slice k2a ln.length k2c] 35)) := ((Below.refl _ _).alloc (Nat.le_refl _) _).alloc (by simp) _
  have b1 := (Blk.new w 35 #[.int .i64 ep, .int .i64 ti, .slice t1a t1n t1c, .int .i64 co, .slice l1a l1n l1c, .slice k1a ln.length k1c]).alloc (.cells #[.int .i64 ep, .int .i64 ti, .slice t2a t2n t2c, .int .i64 co, .slice l2a l2n l2c, .slice k2a ln.length k2c] 35)
  have b2 : Blk ((w.alloc (.cells #[.int .i64 ep, .int .i64 ti, .slice t1a t1n t1c, .int .i64 co, .slice l1a l1n l1c, .slice k1a ln.length k1c] 35)).alloc (.cells #[.int .i64 ep, .int .i64 ti, .slice t2a t2n t2c, .int .i64 co, .slice l2a l2n l2c, .slice k2a ln.length k2c] 35)) (w.heap.size + 1) 35 #[.int .i64 ep, .int .i64 ti, .slice t2a t2n t2c, .int .i64 co, .slice l2a l2n l2c, .slice k2a ln.length k2c] := by
    have := Blk.new (w.alloc (.cells #[.int .i64 ep, .int .i64 ti, .slice t1a t1n t1c, .int .i64 co, .slice l1a l1n l1c, .slice k1a ln.length k1c] 35)) 35 #[.int .i64 ep, .int .i64 ti, .slice t2a t2n t2c, .int .i64 co, .slice l2a l2n l2c, .slice k2a ln.length k2c]
    simpa using this
  have ct1 := (t1.below hb2 (Nat.le_refl _)).conv
  have ct2 := (t2.below hb2 (Nat.le_refl _)).conv
  have cl1 := (l1.below hb2 (Nat.le_refl _)).conv
  have cl2 := (l2.below hb2 (Nat.le_refl _)).conv
  have HK1 := Lib.hid (k1.below hb2 (Nat.le_refl _))
  have HK2 := Lib.hid (k2.below hb2 (Nat.le_refl _))
  have HB1 := Lib.hid b1
  have HB2 := Lib.hid b2
  have HBB := Lib.hid hb2
  clear t1 t2 l1 l2 k1 k2 b1 b2 hb2
  go_enter Tryd.func21, Tryd.ntmps21
  go_upto_region 1 with (fail)
  generalize ((w.alloc (.cells #[.int .i64 ep, .int .i64 ti, .slice t1a t1n t1c, .int .i64 co, .slice l1a l1n l1c, .slice k1a ln.length k1c] 35)).alloc (.cells #[.int .i64 ep, .int .i64 ti, .slice t2a t2n t2c, .int .i64 co, .slice l2a l2n l2c, .slice k2a ln.length k2c] 35)) = W at *
  obtain ⟨c0, c1, c2, c3, c4, c5⟩ := rec6 HB1.out
  obtain ⟨e0, e1, e2, e3, e4, e5⟩ := rec6 HB2.out
  go_wp2
  go_loopw [55] (fun i wr => ∃ k : Nat, k ≤ ln.length ∧ i = .int .i64 k ∧ Below W.heap.size W wr) (fun i _ => ln.length - (intOf i).toNat)
  case atStart => exact ⟨0, by omega, rfl, Below.refl _ _⟩
  case round =>
    clear c0 c1 c2 c3 c4 c5 e0 e1 e2 e3 e4 e5 ct1 ct2 cl1 cl2
    obtain ⟨k, hk, rfl, hbr⟩ := hrel
    by_cases hlt : k < ln.length
    · obtain ⟨b1, o1, rfl, hb1, u1, k1, s1⟩ := (HK1.out.below hbr (Nat.le_refl _)).at hlt
      obtain ⟨b2, o2, rfl, hb2, u2, k2, s2⟩ := (HK2.out.below hbr (Nat.le_refl _)).at hlt
      have hkI : (k : Int) < (ln.length : Int) := by omega
      have c5 := (rec6 (HB1.out.belowS hbr)).2.2.2.2.2
      have e5 := (rec6 (HB2.out.belowS hbr)).2.2.2.2.2
      have HBR := Lib.hid hbr
      generalize ln.getD k [] = P at *
      have cv1 := s1.convM
      have cv2 := s2.convM
      obtain ⟨xa, xn, xc, rfl⟩ := s1.val
      obtain ⟨ya, yn, yc, rfl⟩ := s2.val
      clear s1 s2 hbr
      go_wp2
      go_quiet (fail)
      have hbr := below_drewN HBR.out nq
      generalize wr.drewN nq = w2 at *
      go_wp2
      go_roundw
      case rel => exact ⟨k + 1, by omega, by go_num, hbr⟩
      case measure => simp [intOf]; omega
    · have hkI : ¬ (k : Int) < (ln.length : Int) := by omega
      have hbb := below_trans2 HBB.out hbr
      clear hbr
      go_wp2
      go_ret
      exact ⟨rfl, hbb⟩

end Go.Proofs.YtjhannlioddkkaaDoor
