/- Records: Decode. Records: what Decode keeps while it reads. Records: Decode. Records: Same, of two of one content. Records: awake, and the law that what was written is read. The law that a record that was written is read, and bytes that are one are written as they were. -/
import Derived.Test.YtililoojjfcfgaaDoorRcA
import Derived.Test.YtililoojjfcfgaaDoorReaderB
import Derived.Test.YtililoojjfcfgaaDoorRecP
import Derived.Deep.RegionLaw
import Derived.Laws.ResultCell
import Derived.BigQuiet
import Derived.Deep.Cut
import Derived.Deep.QuietTactic
import Derived.Test.YtililoojjfcfgaaDoorBytes
namespace Go.Proofs.YtililoojjfcfgaaDoor
open Go.RowKit
set_option linter.unusedVariables false

theorem Rd.below {w w' : World} {g : Nat} {bs : List Int} {e : Int} (hr : Rd w g bs e) (hb : Below w.heap.size w w') : Rd w' g bs e := by
  obtain ⟨x, h1, h2⟩ := hr
  exact ⟨x, h1.belowS hb, h2.below hb (Nat.le_refl _)⟩
theorem Rd.sl {w w' : World} {g : Nat} {bs : List Int} {e : Int} (hr : Rd w g bs e) (hg : w.grownBy w' (some g)) {u : Value} {zs : List Int} (hu : Sl w u (zs.map (Value.int .u8))) : Sl w' u (zs.map (Value.int .u8)) := by
  obtain ⟨x, h1, h2⟩ := hr
  exact hu.keepG h1 (rd_noB x h2.val e) hg
theorem OSls.keepRd {w w' : World} {base : Nat} {v : Value} {pss : List (List Int)} (h : OSls w base v pss) {g : Nat} {bs : List Int} {e : Int} (hr : Rd w g bs e) (hg : w.grownBy w' (some g)) : OSls w' base v pss := by
  obtain ⟨x, k, hx⟩ := hr
  obtain ⟨vs, h1, h2⟩ := h
  have hn : v.ownBlock ≠ some g := own_blk_ne h1.1 k (by decide)
  refine ⟨vs, ⟨h1.1.kept hg (.inr hn), fun g' hg' => ?_⟩, ?_⟩
  · obtain ⟨cur, hc1, hc2⟩ := h1.2 g' hg'
    exact ⟨cur, (hg.block g' (h1.1.lt g' hg').2 (fun e => hn (by rw [hg', e]))).trans hc1, hc2⟩
  · have key : ∀ {us : List Value} {ps : List (List Int)}, SlAll w us ps → SlAll w' us ps := by
      intro us
      induction us with
      | nil => intro ps h; cases ps with
        | nil => trivial
        | cons _ _ => exact h.elim
      | cons u us ih => intro ps h; cases ps with
        | nil => exact h.elim
        | cons p ps => exact ⟨h.1.keepG k (rd_noB x hx.val e) hg, ih h.2⟩
    exact key h2
theorem Rd.keepT {w w' : World} {base : Nat} {v : Value} {pss : List (List Int)} (hO : OSls w base v pss) {g : Nat} {bs : List Int} {e : Int} (hr : Rd w g bs e) (hg : w.grownBy w' v.ownBlock) : Rd w' g bs e := by
  obtain ⟨vs, h1, h2⟩ := hO
  obtain ⟨x, k, hx⟩ := hr
  exact ⟨x, k.grown hg (fun e => own_blk_ne h1.1 k (by decide) e.symm), hx.keepK h1 hg⟩
theorem Blk.keepO {w w' : World} {base g : Nat} {t : TypeId} {cs : Array Value} {v : Value} {pss : List (List Int)} (h : Blk w g t cs) (hO : OSls w base v pss) (hg : w.grownBy w' v.ownBlock) (hne : 22 ≠ t) : Blk w' g t cs := by
  obtain ⟨vs, h1, _⟩ := hO
  exact h.grown hg (fun e => own_blk_ne h1.1 h hne e.symm)

def endI (er : Int) (rest : List Int) : Int := if er = 0 then (if rest = [] then 0 else 5) else er
theorem crend_any (g : Nat) (bs : List Int) (er : Int) (w : World) (h : Rd w g bs er) :
    Calls Tryd.prog 61 #[.pointer (some ⟨g, 0, none⟩)] w fun e w' => e = .returned (.int .i64 (endI er bs)) ∧ w = w' := by
  have HE := Lib.hid (crerr_any g bs er w h)
  have HL := Lib.hid (crleft_any g bs er w h)
  clear h
  by_cases he : er = 0
  · by_cases hb : bs = []
    · have HD := Lib.hid (show endI er bs = er by unfold endI; rw [if_pos he, if_pos hb, he])
      have hI : ((bs.length : Int) == 0) = true := by simp [hb]
      have hn : (er != 0) = false := by simp [he]
      clear hb he
      go_enter Tryd.func61, Tryd.ntmps61
      go_wp2_with fail
      refine HE.out.mono ?_
      rintro e w1 ⟨rfl, rfl⟩
      go_wp2_with fail
      refine HL.out.mono ?_
      rintro e w1 ⟨rfl, rfl⟩
      go_wp2
      go_ret
      exact ⟨ret_int HD.out.symm, rfl⟩
    · have HD := Lib.hid (show endI er bs = 5 by unfold endI; rw [if_pos he, if_neg hb])
      have hI : ((bs.length : Int) == 0) = false := by simp [hb]
      have hn : (er != 0) = false := by simp [he]
      clear hb he
      go_enter Tryd.func61, Tryd.ntmps61
      go_wp2_with fail
      refine HE.out.mono ?_
      rintro e w1 ⟨rfl, rfl⟩
      go_wp2_with fail
      refine HL.out.mono ?_
      rintro e w1 ⟨rfl, rfl⟩
      go_wp2
      go_ret
      exact ⟨ret_int HD.out.symm, rfl⟩
  · have HD := Lib.hid (show endI er bs = er by unfold endI; rw [if_neg he])
    have hn : (er != 0) = true := by simp [he]
    clear he
    go_enter Tryd.func61, Tryd.ntmps61
    go_wp2_with fail
    refine HE.out.mono ?_
    rintro e w1 ⟨rfl, rfl⟩
    go_wp2
    go_ret
    exact ⟨ret_int HD.out.symm, rfl⟩

end Go.Proofs.YtililoojjfcfgaaDoor

namespace Go.Proofs.YtililoojjfcfgaaDoor
open Go.RowKit
set_option linter.unusedVariables false

theorem step_append_textR {w : World} {ops : Array Oper} {o : Oper} {a : Act} {K : Act → World → Prop} {Q : Exit → Act → World → Prop} {E : Prop} (hgd : o.guard = none) (s x : Operand)
    (ho : o.op = .call { callee := .builtin .append, args := #[s, x], argTypes := #[23, 23] })
    (base : Nat) (v : Value) (pss : List (List Int)) (hs : a.eval s = v) (hown : OSls w base v pss)
    (b cap : Nat) (hx : a.eval x = .slice (some ⟨b, 0, none⟩) 1 cap) (u : Value) (hc : w.cell? ⟨b, 0, none⟩ = some u) (p : List Int) (hu : Sl w u (p.map (Value.int .u8)))
    (h63 : pss.length + 1 ≤ 5000000000000) (hbase : base ≤ w.heap.size)
    (h : ∀ v' w', OSls w' base v' (pss ++ [p]) → Below base w w' → w.grownBy w' v.ownBlock → K (a.put o.dst v') w') : if Region.wanted o (yielded ops a.tmps) = true then Oper.wp Tryd.prog o a w K Q else E := by
  have hw : Region.wanted o (yielded ops a.tmps) = true := by simp [Region.wanted, hgd]
  rw [if_pos hw]
  obtain ⟨vs, h1, h2⟩ := hown
  obtain ⟨i0, hi, hz0, hz1, hz2⟩ := info_parts infoT
  obtain ⟨ua, un, uc, rfl⟩ := hu.val
  obtain ⟨v', w', hrun, hown', hg⟩ := run_append_ownK (P := Tryd.prog) w base 23 o.type 22 i0 (.slice none 0 0) 1 24 Tryd.underlying23 hi hz0 hz1 hz2 rfl (by decide) (by intro c hc; simp [Value.cells] at hc; subst hc; exact notB_slice _ _ _) v pss.length vs h1 ⟨b, 0, none⟩ 1 cap [.slice ua un uc] rfl
    (fun j y hj => by
      match j, hj with
      | 0, hj => simp at hj; subst hj; exact hc
      | j + 1, hj => simp at hj) (by simp [Value.oneCell']) (by simp [notB_slice]) (by unfold maxLen; omega) (by omega) hbase
  unfold Oper.wp execOp
  simp only [ho, resolve, invoke, builtin, Sem.run_bind, Sem.run_pure, Result.andThen_ok, List.map_toArray, List.map_cons, List.map_nil, hs, hx, hrun]
  exact h v' w' ⟨_, by simpa using hown', (h2.keepK h1 hg).snoc (hu.keepK h1 hg)⟩ ((Below.refl _ _).grown hg hbase (fun k hk => (h1.1.lt k hk).1)) hg


theorem OSls.keepGk {w w' : World} {base : Nat} {v : Value} {pss : List (List Int)} (h : OSls w base v pss) {g : Nat} {t : TypeId} {cs : Array Value} (k : Blk w g t cs) (hne : 22 ≠ t) (hcs : ∀ (j : Nat) (n : Int), cs[j]? ≠ some (.int .u8 n)) (hg : w.grownBy w' (some g)) : OSls w' base v pss := by
  obtain ⟨vs, h1, h2⟩ := h
  have hn : v.ownBlock ≠ some g := own_blk_ne h1.1 k hne
  refine ⟨vs, ⟨h1.1.kept hg (.inr hn), fun g' hg' => ?_⟩, ?_⟩
  · obtain ⟨cur, hc1, hc2⟩ := h1.2 g' hg'
    exact ⟨cur, (hg.block g' (h1.1.lt g' hg').2 (fun e => hn (by rw [hg', e]))).trans hc1, hc2⟩
  · have key : ∀ {us : List Value} {ps : List (List Int)}, SlAll w us ps → SlAll w' us ps := by
      intro us
      induction us with
      | nil => intro ps h; cases ps with
        | nil => trivial
        | cons _ _ => exact h.elim
      | cons u us ih => intro ps h; cases ps with
        | nil => exact h.elim
        | cons p ps => exact ⟨h.1.keepG k hcs hg, ih h.2⟩
    exact key h2

def isSl (v : Value) : Prop := ∃ a n c, v = .slice a n c
theorem rec_noB {e1 e2 e4 : Int} {tv lv ov : Value} (h1 : isSl tv) (h2 : isSl lv) (h3 : isSl ov) : ∀ (j : Nat) (n : Int), (#[.int .i64 e1, .int .i64 e2, tv, .int .i64 e4, lv, ov] : Array Value)[j]? ≠ some (.int .u8 n) := by
  obtain ⟨_, _, _, rfl⟩ := h1
  obtain ⟨_, _, _, rfl⟩ := h2
  obtain ⟨_, _, _, rfl⟩ := h3
  intro j n h
  match j, h with
  | 0, h => cases h
  | 1, h => cases h
  | 2, h => cases h
  | 3, h => cases h
  | 4, h => cases h
  | 5, h => cases h
  | j + 6, h => simp at h

/-- How far Decode has come: the record that it fills, the links' row, the reader. -/
structure DecS (W w : World) (g gr : Nat) (e1 e2 e4 : Int) (tv lv ov : Value) (tb lb : List Int) (pss : List (List Int)) (rest : List Int) (er : Int) : Prop where
  kR : Blk w gr 25 #[.int .i64 e1, .int .i64 e2, tv, .int .i64 e4, lv, ov]
  hO : OSls w W.heap.size ov pss
  hr : Rd w g rest er
  ht : Sl w tv (tb.map (Value.int .u8))
  hl : Sl w lv (lb.map (Value.int .u8))
  kZ : Blk w W.heap.size 25 #[.int .i64 0, .int .i64 0, .slice none 0 0, .int .i64 0, .slice none 0 0, .slice none 0 0]
  hb : Below W.heap.size W w
  h1 : g ≠ gr
  h2 : W.heap.size < g
  h3 : W.heap.size < gr

section
variable {W w w1 : World} {g gr : Nat} {e1 e2 e4 : Int} {tv lv ov : Value} {tb lb : List Int} {pss : List (List Int)} {rest : List Int} {er : Int}
theorem DecS.below (h : DecS W w g gr e1 e2 e4 tv lv ov tb lb pss rest er) (hb : Below w.heap.size w w1) : DecS W w1 g gr e1 e2 e4 tv lv ov tb lb pss rest er :=
  ⟨h.kR.belowS hb, h.hO.below hb, h.hr.below hb, h.ht.below hb (Nat.le_refl _), h.hl.below hb (Nat.le_refl _), h.kZ.belowS hb, below_trans2 h.hb hb, h.h1, h.h2, h.h3⟩
theorem DecS.read (h : DecS W w g gr e1 e2 e4 tv lv ov tb lb pss rest er) {rest' : List Int} {er' : Int} (hR : RdAt w w1 g rest' er') : DecS W w1 g gr e1 e2 e4 tv lv ov tb lb pss rest' er' :=
  ⟨h.kR.grown hR.2 (by intro e; cases e; exact h.h1 rfl), h.hO.keepRd h.hr hR.2, hR.1, h.hr.sl hR.2 h.ht, h.hr.sl hR.2 h.hl, h.kZ.grown hR.2 (by intro e; cases e; exact absurd h.h2 (Nat.lt_irrefl _)), below_of_only h.hb hR.2 (Nat.le_of_lt h.h2) h.hb.size, h.h1, h.h2, h.h3⟩
theorem DecS.app (h : DecS W w g gr e1 e2 e4 tv lv ov tb lb pss rest er) {ov' : Value} {pss' : List (List Int)} (hO : OSls w1 W.heap.size ov' pss') (hg : w.grownBy w1 ov.ownBlock) :
    w1.cell? ⟨gr, 5, none⟩ = some ov ∧ w1.frozen? ⟨gr, 5, none⟩ = false ∧ DecS W (w1.setCell ⟨gr, 5, none⟩ ov') g gr e1 e2 e4 tv lv ov' tb lb pss' rest er := by
  have kR := h.kR.keepO h.hO hg (by decide)
  have hr := Rd.keepT h.hO h.hr hg
  have kZ := h.kZ.keepO h.hO hg (by decide)
  have hOO := h.hO
  obtain ⟨vs, o1, o2⟩ := hOO
  have ht := h.ht.keepK o1 hg
  have hl := h.hl.keepK o1 hg
  have hb : Below W.heap.size W w1 := h.hb.grown hg h.hb.size (fun k hk => (o1.1.lt k hk).1)
  obtain ⟨ta, tn, tc, e1'⟩ := ht.val
  obtain ⟨la, ln, lc, e2'⟩ := hl.val
  obtain ⟨oa, oc, e3'⟩ := OSls.val h.hO
  have hNB := rec_noB (e1 := e1) (e2 := e2) (e4 := e4) ⟨_, _, _, e1'⟩ ⟨_, _, _, e2'⟩ ⟨_, _, _, e3'⟩
  have hgS : w1.grownBy (w1.setCell ⟨gr, 5, none⟩ ov') (some gr) := only_setCell (p := ⟨gr, 5, none⟩) (World.grownBy.refl _ _) (.inl rfl) _
  obtain ⟨x, r1, r2⟩ := hr
  refine ⟨kR.cell 5, kR.frozen 5, kR.set_ 5 _, hO.keepGk kR (by decide) hNB hgS, ⟨x, r1.grown hgS (by intro e; cases e; exact h.h1 rfl), r2.keepG kR hNB hgS⟩, ht.keepG kR hNB hgS, hl.keepG kR hNB hgS, kZ.grown hgS (by intro e; cases e; exact absurd h.h3 (Nat.lt_irrefl _)), below_of_only hb hgS (Nat.le_of_lt h.h3) hb.size, h.h1, h.h2, h.h3⟩
end

end Go.Proofs.YtililoojjfcfgaaDoor

namespace Go.Proofs.YtililoojjfcfgaaDoor
open Go.RowKit
set_option linter.unusedVariables false

theorem bytesI_isB {s : List Int} (h : IsB s) (hl : s.length ≤ 4611686018427387904) : IsB (bytesI s) := by
  intro x hx
  unfold bytesI at hx
  rcases List.mem_append.1 hx with hx | hx
  · exact uintN_isB _ hl x hx
  · exact h x hx
theorem encI_isB {size ep ti co : Int} {tr li : List Int} {ln : List (List Int)} (hC : canI size ep ti tr co li ln) (h1 : IsB tr) (h2 : IsB li) (h3 : ∀ p ∈ ln, IsB p) : IsB (encI ep ti tr co li ln) := by
  obtain ⟨hs, he, ht, hc, hx, hl, ha⟩ := hC
  intro x hx
  unfold encI at hx
  simp only [List.mem_append, List.mem_flatMap] at hx
  rcases hx with hx | hx | hx | hx | hx | ⟨p, hp, hx⟩
  · exact uintN_isB _ (by omega) x hx
  · exact uintN_isB _ (by omega) x hx
  · exact bytesI_isB h1 (by omega) x hx
  · exact uintN_isB _ (by omega) x hx
  · exact bytesI_isB h2 (by omega) x hx
  · exact bytesI_isB (h3 p hp) (by have := ha p hp; omega) x hx
theorem contE_isB (size ep ti co : Int) (tr li : List Int) (ln : List (List Int)) (h1 : IsB tr) (h2 : IsB li) (h3 : ∀ p ∈ ln, IsB p) : IsB (contE size ep ti tr co li ln) := by
  unfold contE
  split
  · rename_i h; exact encI_isB h h1 h2 h3
  · intro x hx; cases hx
theorem d_isB (size : Int) (bs : List Int) (hB : IsB bs) : IsB (d3 size bs).1 ∧ IsB (d5 size bs).1 ∧ ∀ p ∈ (d6 size bs).1, IsB p := by
  obtain ⟨l1, l2, l3, l4, l5, l6⟩ := d_left size bs
  exact ⟨bI_isB _ _ _ (suf_isB l2 hB), bI_isB _ _ _ (suf_isB l4 hB), (lkN_isB _ _ _ (fun p hp => by cases hp) (suf_isB l5 hB)).1⟩
theorem cont_isB (size : Int) (bs : List Int) (hB : IsB bs) : IsB (contE size (d1 bs).1 (d2 bs).1 (d3 size bs).1 (d4 size bs).1 (d5 size bs).1 (d6 size bs).1) :=
  contE_isB _ _ _ _ _ _ _ (d_isB size bs hB).1 (d_isB size bs hB).2.1 (d_isB size bs hB).2.2
theorem decOk_iff (size : Int) (bs : List Int) : decOk size bs ↔ (endI (d6 size bs).2.2 (d6 size bs).2.1 = 0 ∧ codeE size (d1 bs).1 (d2 bs).1 (d3 size bs).1 (d4 size bs).1 (d5 size bs).1 (d6 size bs).1 = 0 ∧ contE size (d1 bs).1 (d2 bs).1 (d3 size bs).1 (d4 size bs).1 (d5 size bs).1 (d6 size bs).1 = bs) := by
  unfold decOk endI codeE contE
  constructor
  · rintro ⟨h1, h2, h3, h4⟩
    rw [if_pos h1, if_pos h2, if_pos h3, if_pos h3]
    exact ⟨rfl, rfl, h4⟩
  · rintro ⟨h1, h2, h3⟩
    by_cases hC : canI size (d1 bs).1 (d2 bs).1 (d3 size bs).1 (d4 size bs).1 (d5 size bs).1 (d6 size bs).1
    · rw [if_pos hC] at h3
      by_cases he : (d6 size bs).2.2 = 0
      · rw [if_pos he] at h1
        by_cases hr : (d6 size bs).2.1 = []
        · exact ⟨he, hr, hC, h3⟩
        · rw [if_neg hr] at h1; cases h1
      · rw [if_neg he] at h1; exact absurd h1 he
    · rw [if_neg hC] at h2; cases h2

def decC (size : Int) (bs : List Int) : Int := if decOk size bs then 0 else 5
def DecRes (w w' : World) (size : Int) (bs : List Int) (x : Value) : Prop :=
  (decOk size bs → RecV w' x (d1 bs).1 (d2 bs).1 (d3 size bs).1 (d4 size bs).1 (d5 size bs).1 (d6 size bs).1) ∧ (¬ decOk size bs → x = .agg #[.int .i64 0, .int .i64 0, .slice none 0 0, .int .i64 0, .slice none 0 0, .slice none 0 0]) ∧ Below w.heap.size w w'

theorem sixSet {w : World} {g : Nat} (x0 x1 x2 x3 x4 x5 : Value) : w.grownBy ((((((w.setCell ⟨g, 0, none⟩ x0).setCell ⟨g, 1, none⟩ x1).setCell ⟨g, 2, none⟩ x2).setCell ⟨g, 3, none⟩ x3).setCell ⟨g, 4, none⟩ x4).setCell ⟨g, 5, none⟩ x5) (some g) :=
  only_setCell (p := ⟨g, 5, none⟩) (only_setCell (p := ⟨g, 4, none⟩) (only_setCell (p := ⟨g, 3, none⟩) (only_setCell (p := ⟨g, 2, none⟩) (only_setCell (p := ⟨g, 1, none⟩) (only_setCell (p := ⟨g, 0, none⟩) (World.grownBy.refl _ _) (.inl rfl) _) (.inl rfl) _) (.inl rfl) _) (.inl rfl) _) (.inl rfl) _) (.inl rfl) _

theorem DecS.stored {W w w1 : World} {g gr : Nat} {e1 e2 e4 : Int} {tv lv ov : Value} {tb lb : List Int} {pss : List (List Int)} {rest : List Int} {er : Int} (h : DecS W w g gr e1 e2 e4 tv lv ov tb lb pss rest er) (hg : w.grownBy w1 (some W.heap.size)) :
    RecV w1 (.agg #[.int .i64 e1, .int .i64 e2, tv, .int .i64 e4, lv, ov]) e1 e2 tb e4 lb pss ∧ Below W.heap.size W w1 := by
  have hNB := rec_noB (e1 := 0) (e2 := 0) (e4 := 0) (tv := .slice none 0 0) (lv := .slice none 0 0) (ov := .slice none 0 0) ⟨_, _, _, rfl⟩ ⟨_, _, _, rfl⟩ ⟨_, _, _, rfl⟩
  exact ⟨⟨tv, lv, ov, rfl, h.ht.keepG h.kZ hNB hg, h.hl.keepG h.kZ hNB hg, (h.hO.keepGk h.kZ (by decide) hNB hg).sls⟩, below_of_only h.hb hg (Nat.le_refl _) h.hb.size⟩
theorem rec6f {w : World} {g : Nat} {t : TypeId} {cs : Array Value} (k : Blk w g t cs) :
    w.frozen? ⟨g, 0, none⟩ = false ∧ w.frozen? ⟨g, 1, none⟩ = false ∧ w.frozen? ⟨g, 2, none⟩ = false ∧ w.frozen? ⟨g, 3, none⟩ = false ∧ w.frozen? ⟨g, 4, none⟩ = false ∧ w.frozen? ⟨g, 5, none⟩ = false := ⟨k.frozen 0, k.frozen 1, k.frozen 2, k.frozen 3, k.frozen 4, k.frozen 5⟩

set_option maxRecDepth 100000 in
set_option maxHeartbeats 4000000 in
theorem dec_any (size : Int) (v : Value) (bs : List Int) (w : World) (hz0 : -9223372036854775808 ≤ size) (hz1 : size ≤ 9223372036854775807) (hl : bs.length ≤ 140737488351232) (hB : IsB bs) (hs : Sl w v (bs.map (Value.int .u8))) (hT : TzTab w) :
    Calls Tryd.prog 15 #[.int .i64 size, v] w fun e w' => ∃ x, e = .returned (.tuple #[x, .int .i64 (decC size bs)]) ∧ DecRes w w' size bs x := by
  obtain ⟨a, cap, rfl, hc, hm⟩ := hs.shape
  rw [List.length_map] at *
  have hb1 : Below w.heap.size w (w.alloc (.cells #[.int .i64 0, .int .i64 0, .slice none 0 0, .int .i64 0, .slice none 0 0, .slice none 0 0] 25)) := (Below.refl _ _).alloc (Nat.le_refl _) _
  have kZ := Blk.new w 25 #[.int .i64 0, .int .i64 0, .slice none 0 0, .int .i64 0, .slice none 0 0, .slice none 0 0]
  have hs1 := hs.below hb1 (Nat.le_refl _)
  have hsz1 : (w.alloc (.cells #[.int .i64 0, .int .i64 0, .slice none 0 0, .int .i64 0, .slice none 0 0, .slice none 0 0] 25)).heap.size = w.heap.size + 1 := by simp
  have HLL := Lib.hid hl
  have HB := Lib.hid hB
  have HSS := Lib.hid hs
  have HTT := Lib.hid hT
  obtain ⟨l1, l2, l3, l4, l5, l6⟩ := d_left size bs
  have HL1 := Lib.hid l1
  have HL2 := Lib.hid l2
  have HL3 := Lib.hid l3
  have HL4 := Lib.hid l4
  have HL5 := Lib.hid l5
  have HL6 := Lib.hid l6
  clear hs hl hB hT l1 l2 l3 l4 l5 l6
  go_enter Tryd.func15, Tryd.ntmps15
  go_wp2_with fail
  generalize (w.alloc (.cells #[.int .i64 0, .int .i64 0, .slice none 0 0, .int .i64 0, .slice none 0 0, .slice none 0 0] 25)) = w1 at *
  refine (copen_any _ bs w1 HLL.out hs1).mono ?_
  rintro e w2 ⟨g, rfl, hg, hr2, hb2⟩
  have kZ := kZ.belowS hb2
  have hbr := hb1.trans (hb2.mono hb1.size)
  have hgP : w.heap.size < g := by omega
  clear hs1 hb1 hb2 hsz1 hg
  have HU := Lib.hid (cruint_any g bs 0 255 w2 HB.out HLL.out hr2)
  go_wp2_with fail
  refine HU.out.mono ?_
  rintro e w3 ⟨rfl, hr3, hg3⟩
  have hr3 : Rd w3 g (d1 bs).2.1 (d1 bs).2.2 := hr3
  have kZ := kZ.grown hg3 (by intro e; cases e; omega)
  have hbr := below_of_only hbr hg3 (by omega) hbr.size
  clear hg3 HU hr2
  have HU := Lib.hid (cruint_any g (d1 bs).2.1 (d1 bs).2.2 1125899906842624 w3 (suf_isB HL1.out HB.out) (Nat.le_trans (suf_len HL1.out) HLL.out) hr3)
  go_wp2_with fail
  refine HU.out.mono ?_
  rintro e w4 ⟨rfl, hr4, hg4⟩
  have hr4 : Rd w4 g (d2 bs).2.1 (d2 bs).2.2 := hr4
  have kZ := kZ.grown hg4 (by intro e; cases e; omega)
  have hbr := below_of_only hbr hg4 (by omega) hbr.size
  clear hg4 HU hr3
  have HU := Lib.hid (crbytes_any g (d2 bs).2.1 (d2 bs).2.2 size w4 (suf_isB HL2.out HB.out) (Nat.le_trans (suf_len HL2.out) HLL.out) hr4)
  go_wp2_with fail
  refine HU.out.mono ?_
  rintro e w5 ⟨tv, rfl, ht5, hr5, hg5⟩
  have hr5 : Rd w5 g (d3 size bs).2.1 (d3 size bs).2.2 := hr5
  have ht5 : Sl w5 tv ((d3 size bs).1.map (Value.int .u8)) := ht5
  have kZ := kZ.grown hg5 (by intro e; cases e; omega)
  have hbr := below_of_only hbr hg5 (by omega) hbr.size
  clear hg5 HU hr4
  have HU := Lib.hid (cruint_any g (d3 size bs).2.1 (d3 size bs).2.2 32 w5 (suf_isB HL3.out HB.out) (Nat.le_trans (suf_len HL3.out) HLL.out) hr5)
  go_wp2_with fail
  refine HU.out.mono ?_
  rintro e w6 ⟨rfl, hr6, hg6⟩
  have ht6 := hr5.sl hg6 ht5
  have hr6 : Rd w6 g (d4 size bs).2.1 (d4 size bs).2.2 := hr6
  have kZ := kZ.grown hg6 (by intro e; cases e; omega)
  have hbr := below_of_only hbr hg6 (by omega) hbr.size
  clear hg6 HU hr5 ht5
  have HU := Lib.hid (crbytes_any g (d4 size bs).2.1 (d4 size bs).2.2 size w6 (suf_isB HL4.out HB.out) (Nat.le_trans (suf_len HL4.out) HLL.out) hr6)
  go_wp2_with fail
  refine HU.out.mono ?_
  rintro e w7 ⟨lv, rfl, hl7, hr7, hg7⟩
  have ht7 := hr6.sl hg7 ht6
  have hr7 : Rd w7 g (d5 size bs).2.1 (d5 size bs).2.2 := hr7
  have hl7 : Sl w7 lv ((d5 size bs).1.map (Value.int .u8)) := hl7
  have kZ := kZ.grown hg7 (by intro e; cases e; omega)
  have hbr := below_of_only hbr hg7 (by omega) hbr.size
  clear hg7 HU hr6 ht6
  have hE : (uI 255 bs 0).1 = (d1 bs).1 := rfl
  have hE2 : (uI 1125899906842624 (d1 bs).2.1 (d1 bs).2.2).1 = (d2 bs).1 := rfl
  have hE4 : (uI 32 (d3 size bs).2.1 (d3 size bs).2.2).1 = (d4 size bs).1 := rfl
  rw [hE, hE2, hE4]
  clear hE hE2 hE4
  obtain ⟨ta, tn, tc, rfl⟩ := ht7.val
  obtain ⟨la, lcn, lc, rfl⟩ := hl7.val
  have hbR : Below w7.heap.size w7 (w7.alloc (.cells #[.int .i64 (d1 bs).1, .int .i64 (d2 bs).1, .slice ta tn tc, .int .i64 (d4 size bs).1, .slice la lcn lc, .slice none 0 0] 25)) := (Below.refl _ _).alloc (Nat.le_refl _) _
  have hgr : g < w7.heap.size := by obtain ⟨_, hk, _⟩ := hr7; exact hk.lt
  have hWz := kZ.lt
  have hD : DecS w (w7.alloc (.cells #[.int .i64 (d1 bs).1, .int .i64 (d2 bs).1, .slice ta tn tc, .int .i64 (d4 size bs).1, .slice la lcn lc, .slice none 0 0] 25)) g w7.heap.size (d1 bs).1 (d2 bs).1 (d4 size bs).1 (.slice ta tn tc) (.slice la lcn lc) (.slice none 0 0) (d3 size bs).1 (d5 size bs).1 [] (d5 size bs).2.1 (d5 size bs).2.2 :=
    ⟨Blk.new w7 _ _, OSls.nil _ _, hr7.below hbR, ht7.below hbR (Nat.le_refl _), hl7.below hbR (Nat.le_refl _), kZ.belowS hbR, below_trans2 hbr hbR, by omega, hgP, hWz⟩
  have HDD := Lib.hid hD
  clear hD
  go_wp2_with fail
  generalize (w7.alloc (.cells #[.int .i64 (d1 bs).1, .int .i64 (d2 bs).1, .slice ta tn tc, .int .i64 (d4 size bs).1, .slice la lcn lc, .slice none 0 0] 25)) = w8 at *
  have hD := HDD.out
  have HV := Lib.hid (uI_val 255 bs 0 HB.out)
  have hv0 : 0 ≤ (d1 bs).1 := HV.out.1
  have hv1 : (d1 bs).1 ≤ 255 := by
    by_cases he : (uI 255 bs 0).2.2 = 0
    · exact HV.out.2.2.1 he
    · have := HV.out.2.2.2 he; show (uI 255 bs 0).1 ≤ 255; omega
  have HK := Lib.hid (links_any (d1 bs).1 hv0 hv1 w8 (HTT.out.below hD.hb))
  have HN := Lib.hid (links_le (d1 bs).1)
  have HD6 := Lib.hid (show d6 size bs = lkN size (linksI (d1 bs).1) ([], (d5 size bs).2.1, (d5 size bs).2.2) from rfl)
  have HL6 := Lib.hid HL6.out
  have HDS := Lib.hid hD
  have hN9 : linksI (d1 bs).1 ≤ 9 := HN.out
  clear hv0 hv1 HV hr7 ht7 hl7 kZ hbr hbR hD hWz
  generalize hLN : linksI (d1 bs).1 = N at *
  refine HK.out.mono ?_
  rintro e w9 ⟨rfl, rfl⟩
  go_wp2
  go_loopw [28] (fun i wr => ∃ (k : Nat) (ov : Value), i = .int .i64 k ∧ k ≤ N ∧ DecS w wr g w7.heap.size (d1 bs).1 (d2 bs).1 (d4 size bs).1 (.slice ta tn tc) (.slice la lcn lc) ov (d3 size bs).1 (d5 size bs).1 (lkN size k ([], (d5 size bs).2.1, (d5 size bs).2.2)).1 (lkN size k ([], (d5 size bs).2.1, (d5 size bs).2.2)).2.1 (lkN size k ([], (d5 size bs).2.1, (d5 size bs).2.2)).2.2) (fun i _ => N - (intOf i).toNat)
  case atStart => exact ⟨0, _, rfl, by omega, HDS.out⟩
  case round =>
    obtain ⟨k, ov, rfl, hk, hD⟩ := hrel
    clear HDS HK HDD
    by_cases hlt : k < N
    · have hkI : (k : Int) < (N : Int) := by omega
      have HLK := Lib.hid (lkN_len size k ([], (d5 size bs).2.1, (d5 size bs).2.2))
      have HSB := Lib.hid (suf_isB (HL6.out k) HB.out)
      have HSL := Lib.hid (Nat.le_trans (suf_len (HL6.out k)) HLL.out)
      have HST := Lib.hid (show lkN size (k + 1) ([], (d5 size bs).2.1, (d5 size bs).2.2) = lkStep size (lkN size k ([], (d5 size bs).2.1, (d5 size bs).2.2)) from rfl)
      generalize lkN size k ([], (d5 size bs).2.1, (d5 size bs).2.2) = st at *
      obtain ⟨s1, s2, s3⟩ := st
      simp only at hD HSB HSL HLK
      have HLK := Lib.hid (show s1.length + 1 ≤ 5000000000000 by have := HLK.out; simp only [List.length_nil] at this; omega)
      have hgr2 : w.heap.size ≤ wr.heap.size := hD.hb.size
      obtain ⟨oa, oc, rfl⟩ := hD.hO.val
      have q0 : wr.cell? ⟨w7.heap.size, 5, none⟩ = some (.slice oa s1.length oc) := hD.kR.cell 5
      have HX := Lib.hid (fun w1 (hb1 : Below wr.heap.size wr w1) => crbytes_any g s2 s3 size w1 HSB.out HSL.out (hD.below hb1).hr)
      have HDk := Lib.hid (fun w1 (hb1 : Below wr.heap.size wr w1) => hD.below hb1)
      have HBI := Lib.hid (show lkStep size (s1, s2, s3) = (s1 ++ [(bI size s2 s3).1], (bI size s2 s3).2.1, (bI size s2 s3).2.2) from rfl)
      generalize hbI : bI size s2 s3 = bi at *
      obtain ⟨P, P2, P3⟩ := bi
      clear hbI hD
      go_wp2
      go_region_law (first
        | (refine step_append_textR rfl (.tmp 31) (.tmp 35) rfl w.heap.size _ s1 rfl hD3.hO w2.heap.size 1 rfl (.slice xa xn xc) hc2 P hx2 HLK.out (Nat.le_trans hgr2 (Nat.le_trans hsz2 hbA.size)) ?_; intro l5 w5 hO5 hb5 hg5; obtain ⟨a5, c5, rfl⟩ := hO5.val; obtain ⟨q5, f5, hD5⟩ := hD3.app hO5 hg5)
        | (go_simp; go_at_call 59; refine (HX.out _ (by first | exact Below.refl _ _ | exact (Below.refl _ _).drew)).mono ?_; rintro e w2 ⟨x1, rfl, hx1, hR⟩; obtain ⟨xa, xn, xc, rfl⟩ := hx1.val; have hsz2 : wr.heap.size ≤ w2.heap.size := hR.2.size; have hD2 := DecS.read (HDk.out _ (by first | exact Below.refl _ _ | exact (Below.refl _ _).drew)) hR; have q7 : w2.cell? ⟨w7.heap.size, 5, none⟩ = some (.slice oa s1.length oc) := hD2.kR.cell 5; have hbA : Below w2.heap.size w2 (w2.alloc (.cells #[.slice xa xn xc] 22)) := (Below.refl _ _).alloc (Nat.le_refl _) _; have hD3 := hD2.below hbA; have q8 : (w2.alloc (.cells #[.slice xa xn xc] 22)).cell? ⟨w7.heap.size, 5, none⟩ = some (.slice oa s1.length oc) := hD3.kR.cell 5; have hx2 := hx1.below hbA (Nat.le_refl _); have hc2 := (Blk.new w2 22 #[.slice xa xn xc]).cell 0))
      all_goals go_wp2
      all_goals go_roundw
      all_goals first
        | exact ⟨k + 1, _, by go_num, by omega, by rw [HST.out, HBI.out]; have hD6 := hD5; rw [List.length_append, List.length_singleton] at hD6; exact hD6⟩
        | (simp [intOf]; omega)
    · obtain rfl : k = N := by omega
      have hkI : ¬ (k : Int) < (k : Int) := by omega
      rw [← HD6.out] at hD
      obtain ⟨oa, oc, rfl⟩ := hD.hO.val
      have hRV : RecV wr (.agg #[.int .i64 (d1 bs).1, .int .i64 (d2 bs).1, .slice ta tn tc, .int .i64 (d4 size bs).1, .slice la lcn lc, .slice oa (d6 size bs).1.length oc]) (d1 bs).1 (d2 bs).1 (d3 size bs).1 (d4 size bs).1 (d5 size bs).1 (d6 size bs).1 := ⟨_, _, _, rfl, hD.ht, hD.hl, hD.hO.sls⟩
      have HENC := Lib.hid (enc_any size _ _ _ _ _ _ _ wr hz0 hz1 hRV (HTT.out.below hD.hb))
      obtain ⟨c0, c1, c2, c3, c4, c5⟩ := rec6 hD.kR
      have HD := Lib.hid hD
      have HRV := Lib.hid hRV
      have HIB := Lib.hid (cont_isB size bs HB.out)
      have HDO := Lib.hid (decOk_iff size bs)
      clear hRV hD HD6 hLN hr3 hr4 hr5 hr6 hr7 ht5 hl7
      generalize codeE size (d1 bs).1 (d2 bs).1 (d3 size bs).1 (d4 size bs).1 (d5 size bs).1 (d6 size bs).1 = cE at *
      generalize contE size (d1 bs).1 (d2 bs).1 (d3 size bs).1 (d4 size bs).1 (d5 size bs).1 (d6 size bs).1 = bE at *
      go_wp2_with fail
      refine HENC.out.mono ?_
      rintro e w9 ⟨xE, rfl, hxE, hb9⟩
      have HD9 := Lib.hid (HD.out.below hb9)
      have HCE := Lib.hid (crend_any g _ _ w9 HD9.out.hr)
      obtain ⟨c0, c1, c2, c3, c4, c5⟩ := rec6 HD9.out.kR
      obtain ⟨z0, z1, z2, z3, z4, z5⟩ := rec6 HD9.out.kZ
      obtain ⟨f0, f1, f2, f3, f4, f5⟩ := rec6f HD9.out.kZ
      have hs9 := HSS.out.below (HD9.out.hb) (Nat.le_refl _)
      have HEQ := Lib.hid (bytesEq_any xE _ bE bs w9 hxE hs9 HIB.out HB.out)
      clear HENC hb9
      generalize endI (d6 size bs).2.2 (d6 size bs).2.1 = eE at *
      by_cases h1 : eE = 0
      · have h1' : (eE != 0) = false := by simpa using h1
        by_cases h2 : cE = 0
        · have h2' : (cE != 0) = false := by simpa using h2
          by_cases h3 : bE = bs
          · rw [decide_eq_true h3] at HEQ
            have HOK := Lib.hid (HDO.out.2 ⟨h1, h2, h3⟩)
            clear h1 h2 h3 HDO
            go_wp2_with fail
            refine HCE.out.mono ?_
            rintro e w10 ⟨rfl, rfl⟩
            go_wp2_with fail
            refine HEQ.out.mono ?_
            rintro e w10 ⟨rfl, rfl⟩
            go_wp2
            exact bodyPost_ret (by rw [results_cell_tmp rfl]; go_simp; exact rfl) rfl ⟨_, by rw [show decC size bs = 0 from by unfold decC; rw [if_pos HOK.out]], fun _ => (HD9.out.stored (sixSet _ _ _ _ _ _)).1, fun h => absurd HOK.out h, (HD9.out.stored (sixSet _ _ _ _ _ _)).2⟩
          · rw [decide_eq_false h3] at HEQ
            have HNO := Lib.hid (fun h => h3 (HDO.out.1 h).2.2)
            clear h1 h2 h3 HDO
            go_wp2_with fail
            refine HCE.out.mono ?_
            rintro e w10 ⟨rfl, rfl⟩
            go_wp2_with fail
            refine HEQ.out.mono ?_
            rintro e w10 ⟨rfl, rfl⟩
            go_wp2
            exact bodyPost_ret (by rw [results_cell_tmp rfl]; go_simp; exact rfl) rfl ⟨_, by rw [show decC size bs = 5 from by unfold decC; rw [if_neg HNO.out]], fun h => absurd h HNO.out, fun _ => rfl, (HD9.out.stored (sixSet _ _ _ _ _ _)).2⟩
        · have h2' : (cE != 0) = true := by simpa using h2
          have HNO := Lib.hid (fun h => h2 (HDO.out.1 h).2.1)
          clear h1 h2 HDO
          go_wp2_with fail
          refine HCE.out.mono ?_
          rintro e w10 ⟨rfl, rfl⟩
          go_wp2
          exact bodyPost_ret (by rw [results_cell_tmp rfl]; go_simp; exact rfl) rfl ⟨_, by rw [show decC size bs = 5 from by unfold decC; rw [if_neg HNO.out]], fun h => absurd h HNO.out, fun _ => rfl, (HD9.out.stored (sixSet _ _ _ _ _ _)).2⟩
      · have h1' : (eE != 0) = true := by simpa using h1
        have HNO := Lib.hid (fun h => h1 (HDO.out.1 h).1)
        clear h1 HDO
        go_wp2_with fail
        refine HCE.out.mono ?_
        rintro e w10 ⟨rfl, rfl⟩
        go_wp2
        exact bodyPost_ret (by rw [results_cell_tmp rfl]; go_simp; exact rfl) rfl ⟨_, by rw [show decC size bs = 5 from by unfold decC; rw [if_neg HNO.out]], fun h => absurd h HNO.out, fun _ => rfl, (HD9.out.stored (sixSet _ _ _ _ _ _)).2⟩

end Go.Proofs.YtililoojjfcfgaaDoor

namespace Go.Proofs.YtililoojjfcfgaaDoor
open Go.RowKit
set_option linter.unusedVariables false

theorem Sl.convM {w : World} {v : Value} {xs : List Int} (h : Sl w v (xs.map (Value.int .u8))) : ∀ n, (convert 22 9 v).run Tryd.prog (w.drewN n) = .ok (.string (strOfNums xs)) (w.drewN n) :=
  fun n => (h.below (below_drewN (Below.refl w.heap.size w) n) (Nat.le_refl _)).conv

set_option maxHeartbeats 2000000 in
theorem rsame_any (v1 v2 : Value) (ep ti : Int) (tr : List Int) (co : Int) (li : List Int) (ln : List (List Int)) (w : World) (hr1 : RecV w v1 ep ti tr co li ln) (hr2 : RecV w v2 ep ti tr co li ln) :
    Calls Tryd.prog 16 #[v1, v2] w fun e w' => e = .returned (.bool true) ∧ Below w.heap.size w w' := by
  obtain ⟨vt1, vl1, vk1, rfl, t1, l1, k1⟩ := hr1
  obtain ⟨vt2, vl2, vk2, rfl, t2, l2, k2⟩ := hr2
  obtain ⟨t1a, t1n, t1c, rfl⟩ := t1.val
  obtain ⟨t2a, t2n, t2c, rfl⟩ := t2.val
  obtain ⟨l1a, l1n, l1c, rfl⟩ := l1.val
  obtain ⟨l2a, l2n, l2c, rfl⟩ := l2.val
  obtain ⟨k1a, k1c, rfl, hk1c, hk1m⟩ := k1.shape
  obtain ⟨k2a, k2c, rfl, hk2c, hk2m⟩ := k2.shape
  have hb2 : Below w.heap.size w ((w.alloc (.cells #[.int .i64 ep, .int .i64 ti, .slice t1a t1n t1c, .int .i64 co, .slice l1a l1n l1c, .slice k1a ln.length k1c] 25)).alloc (.cells #[.int .i64 ep, .int .i64 ti, .slice t2a t2n t2c, .int .i64 co, .slice l2a l2n l2c, .slice k2a ln.length k2c] 25)) := ((Below.refl _ _).alloc (Nat.le_refl _) _).alloc (by simp) _
  have b1 := (Blk.new w 25 #[.int .i64 ep, .int .i64 ti, .slice t1a t1n t1c, .int .i64 co, .slice l1a l1n l1c, .slice k1a ln.length k1c]).alloc (.cells #[.int .i64 ep, .int .i64 ti, .slice t2a t2n t2c, .int .i64 co, .slice l2a l2n l2c, .slice k2a ln.length k2c] 25)
  have b2 : Blk ((w.alloc (.cells #[.int .i64 ep, .int .i64 ti, .slice t1a t1n t1c, .int .i64 co, .slice l1a l1n l1c, .slice k1a ln.length k1c] 25)).alloc (.cells #[.int .i64 ep, .int .i64 ti, .slice t2a t2n t2c, .int .i64 co, .slice l2a l2n l2c, .slice k2a ln.length k2c] 25)) (w.heap.size + 1) 25 #[.int .i64 ep, .int .i64 ti, .slice t2a t2n t2c, .int .i64 co, .slice l2a l2n l2c, .slice k2a ln.length k2c] := by
    have := Blk.new (w.alloc (.cells #[.int .i64 ep, .int .i64 ti, .slice t1a t1n t1c, .int .i64 co, .slice l1a l1n l1c, .slice k1a ln.length k1c] 25)) 25 #[.int .i64 ep, .int .i64 ti, .slice t2a t2n t2c, .int .i64 co, .slice l2a l2n l2c, .slice k2a ln.length k2c]
    simpa using this
  have ct1 := (t1.below hb2 (Nat.le_refl _)).conv
  have ct2 := (t2.below hb2 (Nat.le_refl _)).conv
  have cl1 := (l1.below hb2 (Nat.le_refl _)).conv
  have cl2 := (l2.below hb2 (Nat.le_refl _)).conv
  have HK1 := Lib.hid (k1.below hb2 (Nat.le_refl _))
  have HK2 := Lib.hid (k2.below hb2 (Nat.le_refl _))
  have HB1 := Lib.hid b1
  have HB2 := Lib.hid b2
  have HBB := Lib.hid hb2
  clear t1 t2 l1 l2 k1 k2 b1 b2 hb2
  go_enter Tryd.func16, Tryd.ntmps16
  go_upto_region 1 with (fail)
  generalize ((w.alloc (.cells #[.int .i64 ep, .int .i64 ti, .slice t1a t1n t1c, .int .i64 co, .slice l1a l1n l1c, .slice k1a ln.length k1c] 25)).alloc (.cells #[.int .i64 ep, .int .i64 ti, .slice t2a t2n t2c, .int .i64 co, .slice l2a l2n l2c, .slice k2a ln.length k2c] 25)) = W at *
  obtain ⟨c0, c1, c2, c3, c4, c5⟩ := rec6 HB1.out
  obtain ⟨e0, e1, e2, e3, e4, e5⟩ := rec6 HB2.out
  go_wp2
  go_loopw [55] (fun i wr => ∃ k : Nat, k ≤ ln.length ∧ i = .int .i64 k ∧ Below W.heap.size W wr) (fun i _ => ln.length - (intOf i).toNat)
  case atStart => exact ⟨0, by omega, rfl, Below.refl _ _⟩
  case round =>
    clear c0 c1 c2 c3 c4 c5 e0 e1 e2 e3 e4 e5 ct1 ct2 cl1 cl2
    obtain ⟨k, hk, rfl, hbr⟩ := hrel
    by_cases hlt : k < ln.length
    · obtain ⟨b1, o1, rfl, hb1, u1, k1, s1⟩ := (HK1.out.below hbr (Nat.le_refl _)).at hlt
      obtain ⟨b2, o2, rfl, hb2, u2, k2, s2⟩ := (HK2.out.below hbr (Nat.le_refl _)).at hlt
      have hkI : (k : Int) < (ln.length : Int) := by omega
      have c5 := (rec6 (HB1.out.belowS hbr)).2.2.2.2.2
      have e5 := (rec6 (HB2.out.belowS hbr)).2.2.2.2.2
      have HBR := Lib.hid hbr
      generalize ln.getD k [] = P at *
      have cv1 := s1.convM
      have cv2 := s2.convM
      obtain ⟨xa, xn, xc, rfl⟩ := s1.val
      obtain ⟨ya, yn, yc, rfl⟩ := s2.val
      clear s1 s2 hbr
      go_wp2
      go_quiet (fail)
      have hbr := below_drewN HBR.out nq
      generalize wr.drewN nq = w2 at *
      go_wp2
      go_roundw
      case rel => exact ⟨k + 1, by omega, by go_num, hbr⟩
      case measure => simp [intOf]; omega
    · have hkI : ¬ (k : Int) < (ln.length : Int) := by omega
      have hbb := below_trans2 HBB.out hbr
      clear hbr
      go_wp2
      go_ret
      exact ⟨rfl, hbb⟩

end Go.Proofs.YtililoojjfcfgaaDoor

namespace Go.Proofs.YtililoojjfcfgaaDoor
open Go.RowKit
set_option linter.unusedVariables false

theorem can1 : canI 1 0 0 [1] 0 [2] [] := by decide
theorem enc1 : encI 0 0 [1] 0 [2] [] = [0, 0, 1, 1, 1, 0, 1, 1, 2] := by decide

set_option maxHeartbeats 400000 in
theorem awake13_any (w : World) (hT : TzTab w) : Calls Tryd.prog 18 #[] w fun e w' => e = .returned (.bool true) ∧ Below w.heap.size w w' := by
  have hB : IsB [0, 0, 1, 1, 1, 0, 1, 1, 2] := by intro n hn; simp at hn; omega
  have hb1 : Below w.heap.size w (w.alloc (.cells #[.int .u8 1] 5)) := (Below.refl _ _).alloc (Nat.le_refl _) _
  have hb2 : Below w.heap.size w ((w.alloc (.cells #[.int .u8 1] 5)).alloc (.cells #[.int .u8 2] 5)) := hb1.alloc hb1.size _
  have hs1 : Sl ((w.alloc (.cells #[.int .u8 1] 5)).alloc (.cells #[.int .u8 2] 5)) (.slice (some ⟨w.heap.size, 0, none⟩) 1 1) ([1].map (Value.int .u8)) := (Sl.lit w #[.int .u8 1] 5 (by simp [maxLen])).below ((Below.refl _ _).alloc (Nat.le_refl _) _) (Nat.le_refl _)
  have hs2 : Sl ((w.alloc (.cells #[.int .u8 1] 5)).alloc (.cells #[.int .u8 2] 5)) (.slice (some ⟨w.heap.size + 1, 0, none⟩) 1 1) ([2].map (Value.int .u8)) := by
    have := Sl.lit (w.alloc (.cells #[.int .u8 1] 5)) #[.int .u8 2] 5 (by simp [maxLen])
    simpa using this
  have hR : RecV ((w.alloc (.cells #[.int .u8 1] 5)).alloc (.cells #[.int .u8 2] 5)) (.agg #[.int .i64 0, .int .i64 0, .slice (some ⟨w.heap.size, 0, none⟩) 1 1, .int .i64 0, .slice (some ⟨w.heap.size + 1, 0, none⟩) 1 1, .slice none 0 0]) 0 0 [1] 0 [2] [] := ⟨_, _, _, rfl, hs1, hs2, ⟨[], Sl.nil _, rfl, fun i u bs hu _ => by simp at hu⟩⟩
  have HE := Lib.hid (enc_any 1 0 0 [1] 0 [2] [] _ _ (by decide) (by decide) hR (hT.below hb2))
  rw [show codeE 1 0 0 [1] 0 [2] [] = 0 from by unfold codeE; rw [if_pos can1], show contE 1 0 0 [1] 0 [2] [] = [0, 0, 1, 1, 1, 0, 1, 1, 2] from by unfold contE; rw [if_pos can1, enc1]] at HE
  clear hR hs1 hs2 hT hb1
  go_enter Tryd.func18, Tryd.ntmps18
  go_wp2_with fail
  generalize ((w.alloc (.cells #[.int .u8 1] 5)).alloc (.cells #[.int .u8 2] 5)) = w1 at *
  refine HE.out.mono ?_
  rintro e w2 ⟨x, rfl, hs2, hb3⟩
  have hb4 := below_trans2 hb2 hb3
  clear hb2 hb3 HE
  go_wp2_with fail
  refine (bytesEq_same _ _ [0, 0, 1, 1, 1, 0, 1, 1, 2] _ (hs2.below ((Below.refl _ _).alloc (Nat.le_refl _) _) (Nat.le_refl _)) (Sl.lit w2 #[.int .u8 0, .int .u8 0, .int .u8 1, .int .u8 1, .int .u8 1, .int .u8 0, .int .u8 1, .int .u8 1, .int .u8 2] _ (by simp [maxLen])) hB).mono ?_
  rintro e w3 ⟨rfl, rfl⟩
  go_wp2
  go_ret
  exact ⟨rfl, hb4.alloc hb4.size _⟩

end Go.Proofs.YtililoojjfcfgaaDoor

namespace Go.Proofs.YtililoojjfcfgaaDoor
open Go.RowKit
set_option linter.unusedVariables false

theorem enc_short {size ep ti co : Int} {tr li : List Int} {ln : List (List Int)} (h : canI size ep ti tr co li ln) : (encI ep ti tr co li ln).length ≤ 1000 := by
  rw [← encTo_all]; exact encTo_len h _

theorem RecV.val {w : World} {v : Value} {ep ti co : Int} {tr li : List Int} {ln : List (List Int)} (h : RecV w v ep ti tr co li ln) : ∃ ta tn tc la lc lcc ka kc, v = .agg #[.int .i64 ep, .int .i64 ti, .slice ta tn tc, .int .i64 co, .slice la lc lcc, .slice ka ln.length kc] := by
  obtain ⟨vt, vl, vk, rfl, h1, h2, h3⟩ := h
  obtain ⟨_, _, _, rfl⟩ := h1.val
  obtain ⟨_, _, _, rfl⟩ := h2.val
  obtain ⟨_, _, rfl, _, _⟩ := h3.shape
  exact ⟨_, _, _, _, _, _, _, _, rfl⟩

set_option maxRecDepth 100000 in
set_option maxHeartbeats 2000000 in
theorem recordBack_walk (size : Int) (rv : Value) (ep ti : Int) (tr : List Int) (co : Int) (li : List Int) (ln : List (List Int)) (v : Value) (bs : List Int) (w : World) (hT : TzTab w) (hz0 : -9223372036854775808 ≤ size) (hz1 : size ≤ 9223372036854775807)
    (hrB : IsB tr ∧ IsB li ∧ ∀ p ∈ ln, IsB p) (hr : RecV w rv ep ti tr co li ln) (hB : IsB bs) (hs : Sl w v (bs.map (Value.int .u8))) (hl : bs.length ≤ 140737488351232) :
    Calls Tryd.prog 3 #[.int .i64 size, rv, v] w fun e w' => e = .returned (.bool true) ∧ Below w.heap.size w w' := by
  obtain ⟨ta, tn, tc, la, lc, lcc, ka, kc, rfl⟩ := hr.val
  obtain ⟨a, cap, rfl, hcp, hmp⟩ := hs.shape
  rw [List.length_map] at *
  have hb1 : Below w.heap.size w (w.alloc (.cells #[.int .i64 ep, .int .i64 ti, .slice ta tn tc, .int .i64 co, .slice la lc lcc, .slice ka ln.length kc] 25)) := (Below.refl _ _).alloc (Nat.le_refl _) _
  have kR := Blk.new w 25 #[.int .i64 ep, .int .i64 ti, .slice ta tn tc, .int .i64 co, .slice la lc lcc, .slice ka ln.length kc]
  have HR := Lib.hid hr
  have HS := Lib.hid hs
  have HT := Lib.hid hT
  have HB := Lib.hid hB
  have HRB := Lib.hid hrB
  have HLL := Lib.hid hl
  generalize hw1 : (w.alloc (.cells #[.int .i64 ep, .int .i64 ti, .slice ta tn tc, .int .i64 co, .slice la lc lcc, .slice ka ln.length kc] 25)) = w1 at *
  obtain ⟨c0, c1, c2, c3, c4, c5⟩ := rec6 kR
  have HE := Lib.hid (enc_any size ep ti tr co li ln _ w1 hz0 hz1 (hr.below hb1 (Nat.le_refl _)) (hT.below hb1))
  clear hr hs hT hB hrB hl

  by_cases hC : canI size ep ti tr co li ln
  · rw [show codeE size ep ti tr co li ln = 0 from by unfold codeE; rw [if_pos hC], show contE size ep ti tr co li ln = encI ep ti tr co li ln from by unfold contE; rw [if_pos hC]] at HE
    have HIB := Lib.hid (encI_isB hC HRB.out.1 HRB.out.2.1 HRB.out.2.2)
    have HLE := Lib.hid (enc_short hC)
    have HOK := Lib.hid (dec_enc_ok hC)
    have HDD := Lib.hid (dec_enc size (Int.le_refl _) hC)
    clear hC
    generalize encI ep ti tr co li ln = en at *
    go_enter Tryd.func3, Tryd.ntmps3
    go_wp2_with fail
    refine HE.out.mono ?_
    rintro e w2 ⟨x2, rfl, hx2, hb2⟩
    have hbr := below_trans2 hb1 hb2
    have kR2 := kR.belowS hb2
    have HDE := Lib.hid (dec_any size x2 en w2 hz0 hz1 (by have := HLE.out; omega) HIB.out hx2 (HT.out.below hbr))
    clear hw1 HE hb2 c0 c1 c2 c3 c4 c5 kR hx2
    go_wp2_with fail
    refine HDE.out.mono ?_
    rintro e w3 ⟨x3, rfl, hok3, hno3, hb3⟩
    have hR3 := hok3 HOK.out
    rw [show decC size en = 0 from by unfold decC; rw [if_pos HOK.out]]
    rw [HDD.out.1, HDD.out.2.1, HDD.out.2.2.1, HDD.out.2.2.2.1, HDD.out.2.2.2.2.1, HDD.out.2.2.2.2.2] at hR3
    simp only at hR3
    have hbr := below_trans2 hbr hb3
    have kR3 := kR2.belowS hb3
    clear hok3 hno3 HDE kR2 hb3
    obtain ⟨ya, yn, yc, za, zc, zcc, qa, qc, rfl⟩ := hR3.val
    have hbA : Below w3.heap.size w3 (w3.alloc (.cells #[.int .i64 ep, .int .i64 ti, .slice ya yn yc, .int .i64 co, .slice za zc zcc, .slice qa ln.length qc] 25)) := (Below.refl _ _).alloc (Nat.le_refl _) _
    have hbr := below_trans2 hbr hbA
    have kR4 := kR3.belowS hbA
    obtain ⟨c0, c1, c2, c3, c4, c5⟩ := rec6 kR4
    have HSM := Lib.hid (rsame_any _ _ ep ti tr co li ln _ (hR3.below hbA (Nat.le_refl _)) (HR.out.below hbr (Nat.le_refl _)))
    clear hR3 hbA kR3 kR4
    go_wp2_with fail
    generalize (w3.alloc (.cells #[.int .i64 ep, .int .i64 ti, .slice ya yn yc, .int .i64 co, .slice za zc zcc, .slice qa ln.length qc] 25)) = w4 at *
    refine HSM.out.mono ?_
    rintro e w5 ⟨rfl, hb5⟩
    have hbr := below_trans2 hbr hb5
    clear HSM hb5 c0 c1 c2 c3 c4 c5
    have HDE := Lib.hid (dec_any size (.slice a bs.length cap) bs w5 hz0 hz1 HLL.out HB.out (HS.out.below hbr (Nat.le_refl _)) (HT.out.below hbr))
    go_wp2_with fail
    refine HDE.out.mono ?_
    rintro e w8 ⟨x8, rfl, hok8, hno8, hb8⟩
    have hbr := below_trans2 hbr hb8
    clear HDE
    by_cases hD : decOk size bs
    · have hR8 := hok8 hD
      rw [show decC size bs = 0 from by unfold decC; rw [if_pos hD]]
      obtain ⟨ya, yn, yc, za, zc, zcc, qa, qc, rfl⟩ := hR8.val
      have hbA : Below w8.heap.size w8 (w8.alloc (.cells #[.int .i64 (d1 bs).1, .int .i64 (d2 bs).1, .slice ya yn yc, .int .i64 (d4 size bs).1, .slice za zc zcc, .slice qa (d6 size bs).1.length qc] 25)) := (Below.refl _ _).alloc (Nat.le_refl _) _
      have HE9 := Lib.hid (enc_any size _ _ _ _ _ _ _ _ hz0 hz1 (hR8.below hbA (Nat.le_refl _)) (HT.out.below (below_trans2 hbr hbA)))
      rw [show codeE size (d1 bs).1 (d2 bs).1 (d3 size bs).1 (d4 size bs).1 (d5 size bs).1 (d6 size bs).1 = 0 from by unfold codeE; rw [if_pos hD.2.2.1], show contE size (d1 bs).1 (d2 bs).1 (d3 size bs).1 (d4 size bs).1 (d5 size bs).1 (d6 size bs).1 = bs from by unfold contE; rw [if_pos hD.2.2.1, hD.2.2.2]] at HE9
      clear hok8 hno8 hD hR8
      have hbr := below_trans2 hbr hbA
      go_wp2_with fail
      refine HE9.out.mono ?_
      rintro e w9 ⟨x9, rfl, hx9, hb9⟩
      have hbr := below_trans2 hbr hb9
      have HEQ := Lib.hid (bytesEq_same x9 _ bs w9 hx9 (HS.out.below hbr (Nat.le_refl _)) HB.out)
      have HAW := Lib.hid (awake13_any w9 (HT.out.below hbr))
      clear HE9 hx9 hb9
      go_wp2_with fail
      refine HEQ.out.mono ?_
      rintro e w10 ⟨rfl, rfl⟩
      go_wp2_with fail
      refine HAW.out.mono ?_
      rintro e w11 ⟨rfl, hb11⟩
      have hbr := below_trans2 hbr hb11
      go_wp2
      go_ret
      exact ⟨rfl, hbr⟩
    · have hx8 := hno8 hD
      rw [show decC size bs = 5 from by unfold decC; rw [if_neg hD]]
      subst hx8
      have hbA : Below w8.heap.size w8 (w8.alloc (.cells #[.int .i64 0, .int .i64 0, .slice none 0 0, .int .i64 0, .slice none 0 0, .slice none 0 0] 25)) := (Below.refl _ _).alloc (Nat.le_refl _) _
      have hbr := below_trans2 hbr hbA
      have HAW := Lib.hid (awake13_any _ (HT.out.below hbr))
      clear hok8 hno8 hD
      go_wp2_with fail
      refine HAW.out.mono ?_
      rintro e w11 ⟨rfl, hb11⟩
      have hbr := below_trans2 hbr hb11
      go_wp2
      go_ret
      exact ⟨rfl, hbr⟩
  · rw [show codeE size ep ti tr co li ln = 1 from by unfold codeE; rw [if_neg hC], show contE size ep ti tr co li ln = [] from by unfold contE; rw [if_neg hC]] at HE
    clear hC
    go_enter Tryd.func3, Tryd.ntmps3
    go_wp2_with fail
    refine HE.out.mono ?_
    rintro e w5 ⟨x2, rfl, hx2, hb2⟩
    have hbr := below_trans2 hb1 hb2
    clear hw1 HE hb2 c0 c1 c2 c3 c4 c5 kR hx2
    have HDE := Lib.hid (dec_any size (.slice a bs.length cap) bs w5 hz0 hz1 HLL.out HB.out (HS.out.below hbr (Nat.le_refl _)) (HT.out.below hbr))
    go_wp2_with fail
    refine HDE.out.mono ?_
    rintro e w8 ⟨x8, rfl, hok8, hno8, hb8⟩
    have hbr := below_trans2 hbr hb8
    clear HDE
    by_cases hD : decOk size bs
    · have hR8 := hok8 hD
      rw [show decC size bs = 0 from by unfold decC; rw [if_pos hD]]
      obtain ⟨ya, yn, yc, za, zc, zcc, qa, qc, rfl⟩ := hR8.val
      have hbA : Below w8.heap.size w8 (w8.alloc (.cells #[.int .i64 (d1 bs).1, .int .i64 (d2 bs).1, .slice ya yn yc, .int .i64 (d4 size bs).1, .slice za zc zcc, .slice qa (d6 size bs).1.length qc] 25)) := (Below.refl _ _).alloc (Nat.le_refl _) _
      have HE9 := Lib.hid (enc_any size _ _ _ _ _ _ _ _ hz0 hz1 (hR8.below hbA (Nat.le_refl _)) (HT.out.below (below_trans2 hbr hbA)))
      rw [show codeE size (d1 bs).1 (d2 bs).1 (d3 size bs).1 (d4 size bs).1 (d5 size bs).1 (d6 size bs).1 = 0 from by unfold codeE; rw [if_pos hD.2.2.1], show contE size (d1 bs).1 (d2 bs).1 (d3 size bs).1 (d4 size bs).1 (d5 size bs).1 (d6 size bs).1 = bs from by unfold contE; rw [if_pos hD.2.2.1, hD.2.2.2]] at HE9
      clear hok8 hno8 hD hR8
      have hbr := below_trans2 hbr hbA
      go_wp2_with fail
      refine HE9.out.mono ?_
      rintro e w9 ⟨x9, rfl, hx9, hb9⟩
      have hbr := below_trans2 hbr hb9
      have HEQ := Lib.hid (bytesEq_same x9 _ bs w9 hx9 (HS.out.below hbr (Nat.le_refl _)) HB.out)
      have HAW := Lib.hid (awake13_any w9 (HT.out.below hbr))
      clear HE9 hx9 hb9
      go_wp2_with fail
      refine HEQ.out.mono ?_
      rintro e w10 ⟨rfl, rfl⟩
      go_wp2_with fail
      refine HAW.out.mono ?_
      rintro e w11 ⟨rfl, hb11⟩
      have hbr := below_trans2 hbr hb11
      go_wp2
      go_ret
      exact ⟨rfl, hbr⟩
    · have hx8 := hno8 hD
      rw [show decC size bs = 5 from by unfold decC; rw [if_neg hD]]
      subst hx8
      have hbA : Below w8.heap.size w8 (w8.alloc (.cells #[.int .i64 0, .int .i64 0, .slice none 0 0, .int .i64 0, .slice none 0 0, .slice none 0 0] 25)) := (Below.refl _ _).alloc (Nat.le_refl _) _
      have hbr := below_trans2 hbr hbA
      have HAW := Lib.hid (awake13_any _ (HT.out.below hbr))
      clear hok8 hno8 hD
      go_wp2_with fail
      refine HAW.out.mono ?_
      rintro e w11 ⟨rfl, hb11⟩
      have hbr := below_trans2 hbr hb11
      go_wp2
      go_ret
      exact ⟨rfl, hbr⟩

end Go.Proofs.YtililoojjfcfgaaDoor
