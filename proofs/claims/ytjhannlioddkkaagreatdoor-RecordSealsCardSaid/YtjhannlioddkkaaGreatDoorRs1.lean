
/- Signatures of small trees: what they are, and Write. Records: Decode. Records: what Decode keeps while it reads. Records: Decode. Records: Same, of two of one content. Records: awake, and the law that what was written is read. The law that a record that was written is read, and bytes that are one are written as they were. Signed records: Seal. The plain law of the digits, for the law WotsChecks. make([]byte, n), and copy onto it. Conditions: none. Signatures as bytes: the program's Read. Conditions: none. Plain laws: bytes that are read without an error are those that are written. Conditions: none. Plain laws of signed records: what was sealed is read back; bytes that are a signature are those that it is written as. Conditions: none. Signatures as bytes: the walk of the program's Read. Conditions: none. -/
import Derived.Test.YtjhannlioddkkaaGreatDoorConc
import Derived.Test.YtjhannlioddkkaaGreatDoorCodecR
import Derived.Test.YtjhannlioddkkaaGreatDoorBlk
import Derived.Test.YtjhannlioddkkaaGreatDoorRec3
import Derived.Test.YtjhannlioddkkaaGreatDoorReaderB
import Derived.Test.YtjhannlioddkkaaGreatDoorRecP
import Derived.Deep.RegionLaw
import Derived.Laws.ResultCell
import Derived.BigQuiet
import Derived.Deep.Cut
import Derived.Deep.QuietTactic
import Derived.Test.YtjhannlioddkkaaGreatDoorBytes
import Derived.Deep.RegionHeld3
import Derived.Test.YtjhannlioddkkaaGreatDoorDigits
import Derived.Test.YtjhannlioddkkaaGreatDoorEqInts
import Derived.Test.YtjhannlioddkkaaGreatDoorOwnT
import Derived.Deep.OwnRows
import Derived.Laws.OwnMore
import Derived.Laws.CopyOwn
import Derived.Test.YtjhannlioddkkaaGreatDoorMtsCan
import Derived.Test.YtjhannlioddkkaaGreatDoorSlc
namespace Go.Proofs.YtjhannlioddkkaaGreatDoor
open Go.RowKit
set_option linter.unusedVariables false

/-- The value is a signature. -/
def SigV (w : World) (v : Value) (idx : Int) (parts path : List (List Int)) : Prop :=
  ∃ vp vq, v = .agg #[.int .i64 idx, vp, vq] ∧ Sls w vp parts ∧ Sls w vq path
theorem SigV.below {w w' : World} {v : Value} {idx : Int} {parts path : List (List Int)} (h : SigV w v idx parts path) {B : Nat} (hb : Below B w w') (hB : w.heap.size ≤ B) : SigV w' v idx parts path := by
  obtain ⟨vp, vq, rfl, h1, h2⟩ := h
  exact ⟨vp, vq, rfl, h1.below hb hB, h2.below hb hB⟩
theorem SigV.val {w : World} {v : Value} {idx : Int} {parts path : List (List Int)} (h : SigV w v idx parts path) : ∃ pa pc qa qc, v = .agg #[.int .i64 idx, .slice pa parts.length pc, .slice qa path.length qc] := by
  obtain ⟨vp, vq, rfl, h1, h2⟩ := h
  obtain ⟨_, _, rfl, _, _⟩ := h1.shape
  obtain ⟨_, _, rfl, _, _⟩ := h2.shape
  exact ⟨_, _, _, _, rfl⟩
theorem SigV.parts {w : World} {pa qa : Option Addr} {pn qn pc qc : Nat} {idx idx' : Int} {parts path : List (List Int)} (h : SigV w (.agg #[.int .i64 idx', .slice pa pn pc, .slice qa qn qc]) idx parts path) : Sls w (.slice pa pn pc) parts ∧ Sls w (.slice qa qn qc) path := by
  obtain ⟨vp, vq, he, h1, h2⟩ := h
  cases he
  exact ⟨h1, h2⟩

theorem rec3 {w : World} {g : Nat} {t : TypeId} {x0 x1 x2 : Value} (k : Blk w g t #[x0, x1, x2]) :
    w.cell? ⟨g, 0, none⟩ = some x0 ∧ w.cell? ⟨g, 1, none⟩ = some x1 ∧ w.cell? ⟨g, 2, none⟩ = some x2 := ⟨k.cell 0, k.cell 1, k.cell 2⟩

/-- A signature's bytes behind bytes. -/
def sigTo (bs : List Int) (idx : Int) (parts path : List (List Int)) : Nat → List Int
  | 0 => bs ++ uintN idx.toNat
  | 1 => (bs ++ uintN idx.toNat) ++ parts.flatten
  | _ => ((bs ++ uintN idx.toNat) ++ parts.flatten) ++ path.flatten

set_option linter.unusedSimpArgs false in
set_option maxRecDepth 100000 in
set_option maxHeartbeats 2000000 in
theorem swrite_any (v : Value) (bs : List Int) (sv : Value) (idx : Int) (parts path : List (List Int)) (w : World) (h0 : 0 ≤ idx) (h1 : idx ≤ 4611686018427387904) (hT : (sigTo bs idx parts path 2).length ≤ 100000000000000) (hs : Sl w v (bs.map (Value.int .u8))) (hg : SigV w sv idx parts path) :
    Calls Tryz.prog 17 #[v, sv] w fun e w' => ∃ x, e = .returned x ∧ w'.ownsRow w.heap.size 5 1 x (sigTo bs idx parts path 2).length ((sigTo bs idx parts path 2).map (Value.int .u8)) ∧ Below w.heap.size w w' := by
  obtain ⟨pa, pc, qa, qc, rfl⟩ := hg.val
  obtain ⟨g1, g2⟩ := hg.parts
  have hL0 : (sigTo bs idx parts path 0).length ≤ 100000000000000 := by unfold sigTo at hT ⊢; simp only [List.length_append] at hT ⊢; omega
  have hLp : parts.flatten.length ≤ 100000000000000 := by unfold sigTo at hT; simp only [List.length_append] at hT; omega
  have hLq : path.flatten.length ≤ 100000000000000 := by unfold sigTo at hT; simp only [List.length_append] at hT; omega
  have hL1 : (sigTo bs idx parts path 1).length ≤ 100000000000000 := by unfold sigTo at hT ⊢; simp only [List.length_append] at hT ⊢; omega
  have hb1 : Below w.heap.size w (w.alloc (.cells #[.int .i64 idx, .slice pa parts.length pc, .slice qa path.length qc] 27)) := (Below.refl _ _).alloc (Nat.le_refl _) _
  have kS := Blk.new w 27 #[.int .i64 idx, .slice pa parts.length pc, .slice qa path.length qc]
  have HU := Lib.hid (cuint_any v bs idx (w.alloc (.cells #[.int .i64 idx, .slice pa parts.length pc, .slice qa path.length qc] 27)) (by unfold sigTo at hL0; simp only [List.length_append] at hL0; omega) (hs.below hb1 (Nat.le_refl _)) h0 h1)
  have HG1 := Lib.hid (fun w' (h : Below w.heap.size w w') => g1.below h (Nat.le_refl _))
  have HG2 := Lib.hid (fun w' (h : Below w.heap.size w w') => g2.below h (Nat.le_refl _))
  have HL0 := Lib.hid hL0
  have HL1 := Lib.hid hL1
  have HLp := Lib.hid hLp
  have HLq := Lib.hid hLq
  have HT := Lib.hid hT
  clear hs hg g1 g2 hT hL0 hL1 hLp hLq h0 h1
  have x0 : ∀ w : World, (Instr.index 63 (.agg #[.slice pa parts.length pc, .slice qa path.length qc]) (.int .i64 0)).run Tryz.prog w = .ok (.slice pa parts.length pc) w := fun _ => by kernel_rfl
  have x1 : ∀ w : World, (Instr.index 63 (.agg #[.slice pa parts.length pc, .slice qa path.length qc]) (.int .i64 1)).run Tryz.prog w = .ok (.slice qa path.length qc) w := fun _ => by kernel_rfl
  go_enter Tryz.func17, Tryz.ntmps17
  go_wp2_with fail
  refine HU.out.mono ?_
  rintro e w2 ⟨x, rfl, hO, hb2⟩
  have hbr := below_trans2 hb1 hb2
  have hO : w2.ownsRow w.heap.size 5 1 x (sigTo bs idx parts path 0).length ((sigTo bs idx parts path 0).map (Value.int .u8)) := by
    rw [show (sigTo bs idx parts path 0).length = bs.length + (uintN idx.toNat).length from List.length_append]
    exact ownsRow_base hO (by simp)
  obtain ⟨c0, c1, c2⟩ := rec3 (kS.belowS hb2)
  clear HU hb1 hb2 kS
  obtain ⟨i0, hi, hz0, hz1, hz2⟩ := info_parts info8c
  go_wp2
  go_loopw [0, 16] (fun b i wr => ∃ (k : Nat) (bv : Value), bv = b ∧ k ≤ 2 ∧ i = .int .i64 k ∧ wr.ownsRow w.heap.size 5 1 bv (sigTo bs idx parts path k).length ((sigTo bs idx parts path k).map (Value.int .u8)) ∧ Below w.heap.size w wr) (fun _ i _ => 2 - (intOf i).toNat)
  case atStart => exact ⟨0, _, rfl, by omega, rfl, hO, hbr⟩
  case round =>
    clear hO hbr c0 c1 c2
    obtain ⟨k, bv, rfl, hk, rfl, hO, hbr⟩ := hrel
    obtain rfl | rfl | rfl : k = 0 ∨ k = 1 ∨ k = 2 := by omega
    all_goals clear hk
    all_goals simp only [Int.natCast_zero, Int.natCast_one, Int.cast_ofNat_Int]
    · have HC := Lib.hid (concat_any (.slice pa parts.length pc) parts wr HLp.out (HG1.out wr hbr))
      have HS := Lib.hid (show sigTo bs idx parts path (0 + 1) = sigTo bs idx parts path 0 ++ parts.flatten from rfl)
      have HQ := Lib.hid (show (sigTo bs idx parts path 0).length + parts.flatten.length ≤ 100000000000000 by have h := HL1.out; rw [show sigTo bs idx parts path 1 = sigTo bs idx parts path 0 ++ parts.flatten from rfl, List.length_append] at h; exact h)
      generalize sigTo bs idx parts path 0 = S0 at *
      generalize parts.flatten = P at *
      go_wp2_with fail
      refine HC.out.mono ?_
      rintro e w3 ⟨x3, rfl, ho3, hb3⟩
      have hs3 := Sl.of_owns ho3
      have hO3 := ownsRow_below hO hb3 (Nat.le_refl _)
      have hbr3 := below_trans2 hbr hb3
      obtain ⟨ua, un, uc, rfl⟩ := hs3.val
      go_wp2_with (at_builtin; refine wpList_append_sl rfl _ _ 22 rfl w.heap.size 5 i0 (.int .u8 0) 1 Tryz.underlying22 hi hz0 hz1 hz2 rfl _ S0.length (S0.map (Value.int .u8)) rfl hO3 (.slice ua un uc) (P.map (Value.int .u8)) rfl hs3 (one8 _) (by have h1 := HQ.out; rw [List.length_map]; unfold maxLen; omega) (by have h1 := HQ.out; rw [List.length_map]; omega) hbr3.size ?_)
      intro xv w4 hown4 hg4
      have hb4 := below_grown hbr3 hO3 (Nat.le_refl _) hbr3.size hg4
      rw [← List.length_append, ← List.map_append, ← HS.out] at hown4
      clear hO hO3 hs3 ho3 hbr hbr3 hb3
      go_wp2
      exact ⟨⟨1, xv, rfl, by omega, by go_num, hown4, hb4⟩, by simp [intOf]⟩
    · have HC := Lib.hid (concat_any (.slice qa path.length qc) path wr HLq.out (HG2.out wr hbr))
      have HS := Lib.hid (show sigTo bs idx parts path (1 + 1) = sigTo bs idx parts path 1 ++ path.flatten from rfl)
      have HQ := Lib.hid (show (sigTo bs idx parts path 1).length + path.flatten.length ≤ 100000000000000 by have h := HT.out; rw [show sigTo bs idx parts path 2 = sigTo bs idx parts path 1 ++ path.flatten from rfl, List.length_append] at h; exact h)
      generalize sigTo bs idx parts path 1 = S0 at *
      generalize path.flatten = P at *
      go_wp2_with fail
      refine HC.out.mono ?_
      rintro e w3 ⟨x3, rfl, ho3, hb3⟩
      have hs3 := Sl.of_owns ho3
      have hO3 := ownsRow_below hO hb3 (Nat.le_refl _)
      have hbr3 := below_trans2 hbr hb3
      obtain ⟨ua, un, uc, rfl⟩ := hs3.val
      go_wp2_with (at_builtin; refine wpList_append_sl rfl _ _ 22 rfl w.heap.size 5 i0 (.int .u8 0) 1 Tryz.underlying22 hi hz0 hz1 hz2 rfl _ S0.length (S0.map (Value.int .u8)) rfl hO3 (.slice ua un uc) (P.map (Value.int .u8)) rfl hs3 (one8 _) (by have h1 := HQ.out; rw [List.length_map]; unfold maxLen; omega) (by have h1 := HQ.out; rw [List.length_map]; omega) hbr3.size ?_)
      intro xv w4 hown4 hg4
      have hb4 := below_grown hbr3 hO3 (Nat.le_refl _) hbr3.size hg4
      rw [← List.length_append, ← List.map_append, ← HS.out] at hown4
      clear hO hO3 hs3 ho3 hbr hbr3 hb3
      go_wp2
      exact ⟨⟨2, xv, rfl, by omega, by go_num, hown4, hb4⟩, by simp [intOf]⟩
    · go_wp2
      go_ret
      exact ⟨_, rfl, hO, hbr⟩

end Go.Proofs.YtjhannlioddkkaaGreatDoor

namespace Go.Proofs.YtjhannlioddkkaaGreatDoor
open Go.RowKit
set_option linter.unusedVariables false

theorem Rd.below {w w' : World} {g : Nat} {bs : List Int} {e : Int} (hr : Rd w g bs e) (hb : Below w.heap.size w w') : Rd w' g bs e := by
  obtain ⟨x, h1, h2⟩ := hr
  exact ⟨x, h1.belowS hb, h2.below hb (Nat.le_refl _)⟩
theorem Rd.sl {w w' : World} {g : Nat} {bs : List Int} {e : Int} (hr : Rd w g bs e) (hg : w.grownBy w' (some g)) {u : Value} {zs : List Int} (hu : Sl w u (zs.map (Value.int .u8))) : Sl w' u (zs.map (Value.int .u8)) := by
  obtain ⟨x, h1, h2⟩ := hr
  exact hu.keepG h1 (rd_noB x h2.val e) hg
theorem OSls.keepRd {w w' : World} {base : Nat} {v : Value} {pss : List (List Int)} (h : OSls w base v pss) {g : Nat} {bs : List Int} {e : Int} (hr : Rd w g bs e) (hg : w.grownBy w' (some g)) : OSls w' base v pss := by
  obtain ⟨x, k, hx⟩ := hr
  obtain ⟨vs, h1, h2⟩ := h
  have hn : v.ownBlock ≠ some g := own_blk_ne h1.1 k (by decide)
  refine ⟨vs, ⟨h1.1.kept hg (.inr hn), fun g' hg' => ?_⟩, ?_⟩
  · obtain ⟨cur, hc1, hc2⟩ := h1.2 g' hg'
    exact ⟨cur, (hg.block g' (h1.1.lt g' hg').2 (fun e => hn (by rw [hg', e]))).trans hc1, hc2⟩
  · have key : ∀ {us : List Value} {ps : List (List Int)}, SlAll w us ps → SlAll w' us ps := by
      intro us
      induction us with
      | nil => intro ps h; cases ps with
        | nil => trivial
        | cons _ _ => exact h.elim
      | cons u us ih => intro ps h; cases ps with
        | nil => exact h.elim
        | cons p ps => exact ⟨h.1.keepG k (rd_noB x hx.val e) hg, ih h.2⟩
    exact key h2
theorem Rd.keepT {w w' : World} {base : Nat} {v : Value} {pss : List (List Int)} (hO : OSls w base v pss) {g : Nat} {bs : List Int} {e : Int} (hr : Rd w g bs e) (hg : w.grownBy w' v.ownBlock) : Rd w' g bs e := by
  obtain ⟨vs, h1, h2⟩ := hO
  obtain ⟨x, k, hx⟩ := hr
  exact ⟨x, k.grown hg (fun e => own_blk_ne h1.1 k (by decide) e.symm), hx.keepK h1 hg⟩
theorem Blk.keepO {w w' : World} {base g : Nat} {t : TypeId} {cs : Array Value} {v : Value} {pss : List (List Int)} (h : Blk w g t cs) (hO : OSls w base v pss) (hg : w.grownBy w' v.ownBlock) (hne : 22 ≠ t) : Blk w' g t cs := by
  obtain ⟨vs, h1, _⟩ := hO
  exact h.grown hg (fun e => own_blk_ne h1.1 h hne e.symm)

def endI (er : Int) (rest : List Int) : Int := if er = 0 then (if rest = [] then 0 else 5) else er
theorem crend_any (g : Nat) (bs : List Int) (er : Int) (w : World) (h : Rd w g bs er) :
    Calls Tryz.prog 46 #[.pointer (some ⟨g, 0, none⟩)] w fun e w' => e = .returned (.int .i64 (endI er bs)) ∧ w = w' := by
  have HE := Lib.hid (crerr_any g bs er w h)
  have HL := Lib.hid (crleft_any g bs er w h)
  clear h
  by_cases he : er = 0
  · by_cases hb : bs = []
    · have HD := Lib.hid (show endI er bs = er by unfold endI; rw [if_pos he, if_pos hb, he])
      have hI : ((bs.length : Int) == 0) = true := by simp [hb]
      have hn : (er != 0) = false := by simp [he]
      clear hb he
      go_enter Tryz.func46, Tryz.ntmps46
      go_wp2_with fail
      refine HE.out.mono ?_
      rintro e w1 ⟨rfl, rfl⟩
      go_wp2_with fail
      refine HL.out.mono ?_
      rintro e w1 ⟨rfl, rfl⟩
      go_wp2
      go_ret
      exact ⟨ret_int HD.out.symm, rfl⟩
    · have HD := Lib.hid (show endI er bs = 5 by unfold endI; rw [if_pos he, if_neg hb])
      have hI : ((bs.length : Int) == 0) = false := by simp [hb]
      have hn : (er != 0) = false := by simp [he]
      clear hb he
      go_enter Tryz.func46, Tryz.ntmps46
      go_wp2_with fail
      refine HE.out.mono ?_
      rintro e w1 ⟨rfl, rfl⟩
      go_wp2_with fail
      refine HL.out.mono ?_
      rintro e w1 ⟨rfl, rfl⟩
      go_wp2
      go_ret
      exact ⟨ret_int HD.out.symm, rfl⟩
  · have HD := Lib.hid (show endI er bs = er by unfold endI; rw [if_neg he])
    have hn : (er != 0) = true := by simp [he]
    clear he
    go_enter Tryz.func46, Tryz.ntmps46
    go_wp2_with fail
    refine HE.out.mono ?_
    rintro e w1 ⟨rfl, rfl⟩
    go_wp2
    go_ret
    exact ⟨ret_int HD.out.symm, rfl⟩

end Go.Proofs.YtjhannlioddkkaaGreatDoor

namespace Go.Proofs.YtjhannlioddkkaaGreatDoor
open Go.RowKit
set_option linter.unusedVariables false

theorem step_append_textR {w : World} {ops : Array Oper} {o : Oper} {a : Act} {K : Act → World → Prop} {Q : Exit → Act → World → Prop} {E : Prop} (hgd : o.guard = none) (s x : Operand)
    (ho : o.op = .call { callee := .builtin .append, args := #[s, x], argTypes := #[23, 23] })
    (base : Nat) (v : Value) (pss : List (List Int)) (hs : a.eval s = v) (hown : OSls w base v pss)
    (b cap : Nat) (hx : a.eval x = .slice (some ⟨b, 0, none⟩) 1 cap) (u : Value) (hc : w.cell? ⟨b, 0, none⟩ = some u) (p : List Int) (hu : Sl w u (p.map (Value.int .u8)))
    (h63 : pss.length + 1 ≤ 5000000000000) (hbase : base ≤ w.heap.size)
    (h : ∀ v' w', OSls w' base v' (pss ++ [p]) → Below base w w' → w.grownBy w' v.ownBlock → K (a.put o.dst v') w') : if Region.wanted o (yielded ops a.tmps) = true then Oper.wp Tryz.prog o a w K Q else E := by
  have hw : Region.wanted o (yielded ops a.tmps) = true := by simp [Region.wanted, hgd]
  rw [if_pos hw]
  obtain ⟨vs, h1, h2⟩ := hown
  obtain ⟨i0, hi, hz0, hz1, hz2⟩ := info_parts infoT
  obtain ⟨ua, un, uc, rfl⟩ := hu.val
  obtain ⟨v', w', hrun, hown', hg⟩ := run_append_ownK (P := Tryz.prog) w base 23 o.type 22 i0 (.slice none 0 0) 1 24 Tryz.underlying23 hi hz0 hz1 hz2 rfl (by decide) (by intro c hc; simp [Value.cells] at hc; subst hc; exact notB_slice _ _ _) v pss.length vs h1 ⟨b, 0, none⟩ 1 cap [.slice ua un uc] rfl
    (fun j y hj => by
      match j, hj with
      | 0, hj => simp at hj; subst hj; exact hc
      | j + 1, hj => simp at hj) (by simp [Value.oneCell']) (by simp [notB_slice]) (by unfold maxLen; omega) (by omega) hbase
  unfold Oper.wp execOp
  simp only [ho, resolve, invoke, builtin, Sem.run_bind, Sem.run_pure, Result.andThen_ok, List.map_toArray, List.map_cons, List.map_nil, hs, hx, hrun]
  exact h v' w' ⟨_, by simpa using hown', (h2.keepK h1 hg).snoc (hu.keepK h1 hg)⟩ ((Below.refl _ _).grown hg hbase (fun k hk => (h1.1.lt k hk).1)) hg


theorem OSls.keepGk {w w' : World} {base : Nat} {v : Value} {pss : List (List Int)} (h : OSls w base v pss) {g : Nat} {t : TypeId} {cs : Array Value} (k : Blk w g t cs) (hne : 22 ≠ t) (hcs : ∀ (j : Nat) (n : Int), cs[j]? ≠ some (.int .u8 n)) (hg : w.grownBy w' (some g)) : OSls w' base v pss := by
  obtain ⟨vs, h1, h2⟩ := h
  have hn : v.ownBlock ≠ some g := own_blk_ne h1.1 k hne
  refine ⟨vs, ⟨h1.1.kept hg (.inr hn), fun g' hg' => ?_⟩, ?_⟩
  · obtain ⟨cur, hc1, hc2⟩ := h1.2 g' hg'
    exact ⟨cur, (hg.block g' (h1.1.lt g' hg').2 (fun e => hn (by rw [hg', e]))).trans hc1, hc2⟩
  · have key : ∀ {us : List Value} {ps : List (List Int)}, SlAll w us ps → SlAll w' us ps := by
      intro us
      induction us with
      | nil => intro ps h; cases ps with
        | nil => trivial
        | cons _ _ => exact h.elim
      | cons u us ih => intro ps h; cases ps with
        | nil => exact h.elim
        | cons p ps => exact ⟨h.1.keepG k hcs hg, ih h.2⟩
    exact key h2

def isSl (v : Value) : Prop := ∃ a n c, v = .slice a n c
theorem rec_noB {e1 e2 e4 : Int} {tv lv ov : Value} (h1 : isSl tv) (h2 : isSl lv) (h3 : isSl ov) : ∀ (j : Nat) (n : Int), (#[.int .i64 e1, .int .i64 e2, tv, .int .i64 e4, lv, ov] : Array Value)[j]? ≠ some (.int .u8 n) := by
  obtain ⟨_, _, _, rfl⟩ := h1
  obtain ⟨_, _, _, rfl⟩ := h2
  obtain ⟨_, _, _, rfl⟩ := h3
  intro j n h
  match j, h with
  | 0, h => cases h
  | 1, h => cases h
  | 2, h => cases h
  | 3, h => cases h
  | 4, h => cases h
  | 5, h => cases h
  | j + 6, h => simp at h

/-- How far Decode has come: the record that it fills, the links' row, the reader. -/
structure DecS (W w : World) (g gr : Nat) (e1 e2 e4 : Int) (tv lv ov : Value) (tb lb : List Int) (pss : List (List Int)) (rest : List Int) (er : Int) : Prop where
  kR : Blk w gr 25 #[.int .i64 e1, .int .i64 e2, tv, .int .i64 e4, lv, ov]
  hO : OSls w W.heap.size ov pss
  hr : Rd w g rest er
  ht : Sl w tv (tb.map (Value.int .u8))
  hl : Sl w lv (lb.map (Value.int .u8))
  kZ : Blk w W.heap.size 25 #[.int .i64 0, .int .i64 0, .slice none 0 0, .int .i64 0, .slice none 0 0, .slice none 0 0]
  hb : Below W.heap.size W w
  h1 : g ≠ gr
  h2 : W.heap.size < g
  h3 : W.heap.size < gr

section
variable {W w w1 : World} {g gr : Nat} {e1 e2 e4 : Int} {tv lv ov : Value} {tb lb : List Int} {pss : List (List Int)} {rest : List Int} {er : Int}
theorem DecS.below (h : DecS W w g gr e1 e2 e4 tv lv ov tb lb pss rest er) (hb : Below w.heap.size w w1) : DecS W w1 g gr e1 e2 e4 tv lv ov tb lb pss rest er :=
  ⟨h.kR.belowS hb, h.hO.below hb, h.hr.below hb, h.ht.below hb (Nat.le_refl _), h.hl.below hb (Nat.le_refl _), h.kZ.belowS hb, below_trans2 h.hb hb, h.h1, h.h2, h.h3⟩
theorem DecS.read (h : DecS W w g gr e1 e2 e4 tv lv ov tb lb pss rest er) {rest' : List Int} {er' : Int} (hR : RdAt w w1 g rest' er') : DecS W w1 g gr e1 e2 e4 tv lv ov tb lb pss rest' er' :=
  ⟨h.kR.grown hR.2 (by intro e; cases e; exact h.h1 rfl), h.hO.keepRd h.hr hR.2, hR.1, h.hr.sl hR.2 h.ht, h.hr.sl hR.2 h.hl, h.kZ.grown hR.2 (by intro e; cases e; exact absurd h.h2 (Nat.lt_irrefl _)), below_of_only h.hb hR.2 (Nat.le_of_lt h.h2) h.hb.size, h.h1, h.h2, h.h3⟩
theorem DecS.app (h : DecS W w g gr e1 e2 e4 tv lv ov tb lb pss rest er) {ov' : Value} {pss' : List (List Int)} (hO : OSls w1 W.heap.size ov' pss') (hg : w.grownBy w1 ov.ownBlock) :
    w1.cell? ⟨gr, 5, none⟩ = some ov ∧ w1.frozen? ⟨gr, 5, none⟩ = false ∧ DecS W (w1.setCell ⟨gr, 5, none⟩ ov') g gr e1 e2 e4 tv lv ov' tb lb pss' rest er := by
  have kR := h.kR.keepO h.hO hg (by decide)
  have hr := Rd.keepT h.hO h.hr hg
  have kZ := h.kZ.keepO h.hO hg (by decide)
  have hOO := h.hO
  obtain ⟨vs, o1, o2⟩ := hOO
  have ht := h.ht.keepK o1 hg
  have hl := h.hl.keepK o1 hg
  have hb : Below W.heap.size W w1 := h.hb.grown hg h.hb.size (fun k hk => (o1.1.lt k hk).1)
  obtain ⟨ta, tn, tc, e1'⟩ := ht.val
  obtain ⟨la, ln, lc, e2'⟩ := hl.val
  obtain ⟨oa, oc, e3'⟩ := OSls.val h.hO
  have hNB := rec_noB (e1 := e1) (e2 := e2) (e4 := e4) ⟨_, _, _, e1'⟩ ⟨_, _, _, e2'⟩ ⟨_, _, _, e3'⟩
  have hgS : w1.grownBy (w1.setCell ⟨gr, 5, none⟩ ov') (some gr) := only_setCell (p := ⟨gr, 5, none⟩) (World.grownBy.refl _ _) (.inl rfl) _
  obtain ⟨x, r1, r2⟩ := hr
  refine ⟨kR.cell 5, kR.frozen 5, kR.set_ 5 _, hO.keepGk kR (by decide) hNB hgS, ⟨x, r1.grown hgS (by intro e; cases e; exact h.h1 rfl), r2.keepG kR hNB hgS⟩, ht.keepG kR hNB hgS, hl.keepG kR hNB hgS, kZ.grown hgS (by intro e; cases e; exact absurd h.h3 (Nat.lt_irrefl _)), below_of_only hb hgS (Nat.le_of_lt h.h3) hb.size, h.h1, h.h2, h.h3⟩
end

end Go.Proofs.YtjhannlioddkkaaGreatDoor

namespace Go.Proofs.YtjhannlioddkkaaGreatDoor
open Go.RowKit
set_option linter.unusedVariables false

theorem bytesI_isB {s : List Int} (h : IsB s) (hl : s.length ≤ 4611686018427387904) : IsB (bytesI s) := by
  intro x hx
  unfold bytesI at hx
  rcases List.mem_append.1 hx with hx | hx
  · exact uintN_isB _ hl x hx
  · exact h x hx
theorem encI_isB {size ep ti co : Int} {tr li : List Int} {ln : List (List Int)} (hC : canI size ep ti tr co li ln) (h1 : IsB tr) (h2 : IsB li) (h3 : ∀ p ∈ ln, IsB p) : IsB (encI ep ti tr co li ln) := by
  obtain ⟨hs, he, ht, hc, hx, hl, ha⟩ := hC
  intro x hx
  unfold encI at hx
  simp only [List.mem_append, List.mem_flatMap] at hx
  rcases hx with hx | hx | hx | hx | hx | ⟨p, hp, hx⟩
  · exact uintN_isB _ (by omega) x hx
  · exact uintN_isB _ (by omega) x hx
  · exact bytesI_isB h1 (by omega) x hx
  · exact uintN_isB _ (by omega) x hx
  · exact bytesI_isB h2 (by omega) x hx
  · exact bytesI_isB (h3 p hp) (by have := ha p hp; omega) x hx
theorem contE_isB (size ep ti co : Int) (tr li : List Int) (ln : List (List Int)) (h1 : IsB tr) (h2 : IsB li) (h3 : ∀ p ∈ ln, IsB p) : IsB (contE size ep ti tr co li ln) := by
  unfold contE
  split
  · rename_i h; exact encI_isB h h1 h2 h3
  · intro x hx; cases hx
theorem d_isB (size : Int) (bs : List Int) (hB : IsB bs) : IsB (d3 size bs).1 ∧ IsB (d5 size bs).1 ∧ ∀ p ∈ (d6 size bs).1, IsB p := by
  obtain ⟨l1, l2, l3, l4, l5, l6⟩ := d_left size bs
  exact ⟨bI_isB _ _ _ (suf_isB l2 hB), bI_isB _ _ _ (suf_isB l4 hB), (lkN_isB _ _ _ (fun p hp => by cases hp) (suf_isB l5 hB)).1⟩
theorem cont_isB (size : Int) (bs : List Int) (hB : IsB bs) : IsB (contE size (d1 bs).1 (d2 bs).1 (d3 size bs).1 (d4 size bs).1 (d5 size bs).1 (d6 size bs).1) :=
  contE_isB _ _ _ _ _ _ _ (d_isB size bs hB).1 (d_isB size bs hB).2.1 (d_isB size bs hB).2.2
theorem decOk_iff (size : Int) (bs : List Int) : decOk size bs ↔ (endI (d6 size bs).2.2 (d6 size bs).2.1 = 0 ∧ codeE size (d1 bs).1 (d2 bs).1 (d3 size bs).1 (d4 size bs).1 (d5 size bs).1 (d6 size bs).1 = 0 ∧ contE size (d1 bs).1 (d2 bs).1 (d3 size bs).1 (d4 size bs).1 (d5 size bs).1 (d6 size bs).1 = bs) := by
  unfold decOk endI codeE contE
  constructor
  · rintro ⟨h1, h2, h3, h4⟩
    rw [if_pos h1, if_pos h2, if_pos h3, if_pos h3]
    exact ⟨rfl, rfl, h4⟩
  · rintro ⟨h1, h2, h3⟩
    by_cases hC : canI size (d1 bs).1 (d2 bs).1 (d3 size bs).1 (d4 size bs).1 (d5 size bs).1 (d6 size bs).1
    · rw [if_pos hC] at h3
      by_cases he : (d6 size bs).2.2 = 0
      · rw [if_pos he] at h1
        by_cases hr : (d6 size bs).2.1 = []
        · exact ⟨he, hr, hC, h3⟩
        · rw [if_neg hr] at h1; cases h1
      · rw [if_neg he] at h1; exact absurd h1 he
    · rw [if_neg hC] at h2; cases h2

def decC (size : Int) (bs : List Int) : Int := if decOk size bs then 0 else 5
def DecRes (w w' : World) (size : Int) (bs : List Int) (x : Value) : Prop :=
  (decOk size bs → RecV w' x (d1 bs).1 (d2 bs).1 (d3 size bs).1 (d4 size bs).1 (d5 size bs).1 (d6 size bs).1) ∧ (¬ decOk size bs → x = .agg #[.int .i64 0, .int .i64 0, .slice none 0 0, .int .i64 0, .slice none 0 0, .slice none 0 0]) ∧ Below w.heap.size w w'

theorem sixSet {w : World} {g : Nat} (x0 x1 x2 x3 x4 x5 : Value) : w.grownBy ((((((w.setCell ⟨g, 0, none⟩ x0).setCell ⟨g, 1, none⟩ x1).setCell ⟨g, 2, none⟩ x2).setCell ⟨g, 3, none⟩ x3).setCell ⟨g, 4, none⟩ x4).setCell ⟨g, 5, none⟩ x5) (some g) :=
  only_setCell (p := ⟨g, 5, none⟩) (only_setCell (p := ⟨g, 4, none⟩) (only_setCell (p := ⟨g, 3, none⟩) (only_setCell (p := ⟨g, 2, none⟩) (only_setCell (p := ⟨g, 1, none⟩) (only_setCell (p := ⟨g, 0, none⟩) (World.grownBy.refl _ _) (.inl rfl) _) (.inl rfl) _) (.inl rfl) _) (.inl rfl) _) (.inl rfl) _) (.inl rfl) _

theorem DecS.stored {W w w1 : World} {g gr : Nat} {e1 e2 e4 : Int} {tv lv ov : Value} {tb lb : List Int} {pss : List (List Int)} {rest : List Int} {er : Int} (h : DecS W w g gr e1 e2 e4 tv lv ov tb lb pss rest er) (hg : w.grownBy w1 (some W.heap.size)) :
    RecV w1 (.agg #[.int .i64 e1, .int .i64 e2, tv, .int .i64 e4, lv, ov]) e1 e2 tb e4 lb pss ∧ Below W.heap.size W w1 := by
  have hNB := rec_noB (e1 := 0) (e2 := 0) (e4 := 0) (tv := .slice none 0 0) (lv := .slice none 0 0) (ov := .slice none 0 0) ⟨_, _, _, rfl⟩ ⟨_, _, _, rfl⟩ ⟨_, _, _, rfl⟩
  exact ⟨⟨tv, lv, ov, rfl, h.ht.keepG h.kZ hNB hg, h.hl.keepG h.kZ hNB hg, (h.hO.keepGk h.kZ (by decide) hNB hg).sls⟩, below_of_only h.hb hg (Nat.le_refl _) h.hb.size⟩
theorem rec6f {w : World} {g : Nat} {t : TypeId} {cs : Array Value} (k : Blk w g t cs) :
    w.frozen? ⟨g, 0, none⟩ = false ∧ w.frozen? ⟨g, 1, none⟩ = false ∧ w.frozen? ⟨g, 2, none⟩ = false ∧ w.frozen? ⟨g, 3, none⟩ = false ∧ w.frozen? ⟨g, 4, none⟩ = false ∧ w.frozen? ⟨g, 5, none⟩ = false := ⟨k.frozen 0, k.frozen 1, k.frozen 2, k.frozen 3, k.frozen 4, k.frozen 5⟩

set_option maxRecDepth 100000 in
set_option maxHeartbeats 4000000 in
theorem dec_any (size : Int) (v : Value) (bs : List Int) (w : World) (hz0 : -9223372036854775808 ≤ size) (hz1 : size ≤ 9223372036854775807) (hl : bs.length ≤ 140737488351232) (hB : IsB bs) (hs : Sl w v (bs.map (Value.int .u8))) (hT : TzTab w) :
    Calls Tryz.prog 26 #[.int .i64 size, v] w fun e w' => ∃ x, e = .returned (.tuple #[x, .int .i64 (decC size bs)]) ∧ DecRes w w' size bs x := by
  obtain ⟨a, cap, rfl, hc, hm⟩ := hs.shape
  rw [List.length_map] at *
  have hb1 : Below w.heap.size w (w.alloc (.cells #[.int .i64 0, .int .i64 0, .slice none 0 0, .int .i64 0, .slice none 0 0, .slice none 0 0] 25)) := (Below.refl _ _).alloc (Nat.le_refl _) _
  have kZ := Blk.new w 25 #[.int .i64 0, .int .i64 0, .slice none 0 0, .int .i64 0, .slice none 0 0, .slice none 0 0]
  have hs1 := hs.below hb1 (Nat.le_refl _)
  have hsz1 : (w.alloc (.cells #[.int .i64 0, .int .i64 0, .slice none 0 0, .int .i64 0, .slice none 0 0, .slice none 0 0] 25)).heap.size = w.heap.size + 1 := by simp
  have HLL := Lib.hid hl
  have HB := Lib.hid hB
  have HSS := Lib.hid hs
  have HTT := Lib.hid hT
  obtain ⟨l1, l2, l3, l4, l5, l6⟩ := d_left size bs
  have HL1 := Lib.hid l1
  have HL2 := Lib.hid l2
  have HL3 := Lib.hid l3
  have HL4 := Lib.hid l4
  have HL5 := Lib.hid l5
  have HL6 := Lib.hid l6
  clear hs hl hB hT l1 l2 l3 l4 l5 l6
  go_enter Tryz.func26, Tryz.ntmps26
  go_wp2_with fail
  generalize (w.alloc (.cells #[.int .i64 0, .int .i64 0, .slice none 0 0, .int .i64 0, .slice none 0 0, .slice none 0 0] 25)) = w1 at *
  refine (copen_any _ bs w1 HLL.out hs1).mono ?_
  rintro e w2 ⟨g, rfl, hg, hr2, hb2⟩
  have kZ := kZ.belowS hb2
  have hbr := hb1.trans (hb2.mono hb1.size)
  have hgP : w.heap.size < g := by omega
  clear hs1 hb1 hb2 hsz1 hg
  have HU := Lib.hid (cruint_any g bs 0 255 w2 HB.out HLL.out hr2)
  go_wp2_with fail
  refine HU.out.mono ?_
  rintro e w3 ⟨rfl, hr3, hg3⟩
  have hr3 : Rd w3 g (d1 bs).2.1 (d1 bs).2.2 := hr3
  have kZ := kZ.grown hg3 (by intro e; cases e; omega)
  have hbr := below_of_only hbr hg3 (by omega) hbr.size
  clear hg3 HU hr2
  have HU := Lib.hid (cruint_any g (d1 bs).2.1 (d1 bs).2.2 1125899906842624 w3 (suf_isB HL1.out HB.out) (Nat.le_trans (suf_len HL1.out) HLL.out) hr3)
  go_wp2_with fail
  refine HU.out.mono ?_
  rintro e w4 ⟨rfl, hr4, hg4⟩
  have hr4 : Rd w4 g (d2 bs).2.1 (d2 bs).2.2 := hr4
  have kZ := kZ.grown hg4 (by intro e; cases e; omega)
  have hbr := below_of_only hbr hg4 (by omega) hbr.size
  clear hg4 HU hr3
  have HU := Lib.hid (crbytes_any g (d2 bs).2.1 (d2 bs).2.2 size w4 (suf_isB HL2.out HB.out) (Nat.le_trans (suf_len HL2.out) HLL.out) hr4)
  go_wp2_with fail
  refine HU.out.mono ?_
  rintro e w5 ⟨tv, rfl, ht5, hr5, hg5⟩
  have hr5 : Rd w5 g (d3 size bs).2.1 (d3 size bs).2.2 := hr5
  have ht5 : Sl w5 tv ((d3 size bs).1.map (Value.int .u8)) := ht5
  have kZ := kZ.grown hg5 (by intro e; cases e; omega)
  have hbr := below_of_only hbr hg5 (by omega) hbr.size
  clear hg5 HU hr4
  have HU := Lib.hid (cruint_any g (d3 size bs).2.1 (d3 size bs).2.2 32 w5 (suf_isB HL3.out HB.out) (Nat.le_trans (suf_len HL3.out) HLL.out) hr5)
  go_wp2_with fail
  refine HU.out.mono ?_
  rintro e w6 ⟨rfl, hr6, hg6⟩
  have ht6 := hr5.sl hg6 ht5
  have hr6 : Rd w6 g (d4 size bs).2.1 (d4 size bs).2.2 := hr6
  have kZ := kZ.grown hg6 (by intro e; cases e; omega)
  have hbr := below_of_only hbr hg6 (by omega) hbr.size
  clear hg6 HU hr5 ht5
  have HU := Lib.hid (crbytes_any g (d4 size bs).2.1 (d4 size bs).2.2 size w6 (suf_isB HL4.out HB.out) (Nat.le_trans (suf_len HL4.out) HLL.out) hr6)
  go_wp2_with fail
  refine HU.out.mono ?_
  rintro e w7 ⟨lv, rfl, hl7, hr7, hg7⟩
  have ht7 := hr6.sl hg7 ht6
  have hr7 : Rd w7 g (d5 size bs).2.1 (d5 size bs).2.2 := hr7
  have hl7 : Sl w7 lv ((d5 size bs).1.map (Value.int .u8)) := hl7
  have kZ := kZ.grown hg7 (by intro e; cases e; omega)
  have hbr := below_of_only hbr hg7 (by omega) hbr.size
  clear hg7 HU hr6 ht6
  have hE : (uI 255 bs 0).1 = (d1 bs).1 := rfl
  have hE2 : (uI 1125899906842624 (d1 bs).2.1 (d1 bs).2.2).1 = (d2 bs).1 := rfl
  have hE4 : (uI 32 (d3 size bs).2.1 (d3 size bs).2.2).1 = (d4 size bs).1 := rfl
  rw [hE, hE2, hE4]
  clear hE hE2 hE4
  obtain ⟨ta, tn, tc, rfl⟩ := ht7.val
  obtain ⟨la, lcn, lc, rfl⟩ := hl7.val
  have hbR : Below w7.heap.size w7 (w7.alloc (.cells #[.int .i64 (d1 bs).1, .int .i64 (d2 bs).1, .slice ta tn tc, .int .i64 (d4 size bs).1, .slice la lcn lc, .slice none 0 0] 25)) := (Below.refl _ _).alloc (Nat.le_refl _) _
  have hgr : g < w7.heap.size := by obtain ⟨_, hk, _⟩ := hr7; exact hk.lt
  have hWz := kZ.lt
  have hD : DecS w (w7.alloc (.cells #[.int .i64 (d1 bs).1, .int .i64 (d2 bs).1, .slice ta tn tc, .int .i64 (d4 size bs).1, .slice la lcn lc, .slice none 0 0] 25)) g w7.heap.size (d1 bs).1 (d2 bs).1 (d4 size bs).1 (.slice ta tn tc) (.slice la lcn lc) (.slice none 0 0) (d3 size bs).1 (d5 size bs).1 [] (d5 size bs).2.1 (d5 size bs).2.2 :=
    ⟨Blk.new w7 _ _, OSls.nil _ _, hr7.below hbR, ht7.below hbR (Nat.le_refl _), hl7.below hbR (Nat.le_refl _), kZ.belowS hbR, below_trans2 hbr hbR, by omega, hgP, hWz⟩
  have HDD := Lib.hid hD
  clear hD
  go_wp2_with fail
  generalize (w7.alloc (.cells #[.int .i64 (d1 bs).1, .int .i64 (d2 bs).1, .slice ta tn tc, .int .i64 (d4 size bs).1, .slice la lcn lc, .slice none 0 0] 25)) = w8 at *
  have hD := HDD.out
  have HV := Lib.hid (uI_val 255 bs 0 HB.out)
  have hv0 : 0 ≤ (d1 bs).1 := HV.out.1
  have hv1 : (d1 bs).1 ≤ 255 := by
    by_cases he : (uI 255 bs 0).2.2 = 0
    · exact HV.out.2.2.1 he
    · have := HV.out.2.2.2 he; show (uI 255 bs 0).1 ≤ 255; omega
  have HK := Lib.hid (links_any (d1 bs).1 hv0 hv1 w8 (HTT.out.below hD.hb))
  have HN := Lib.hid (links_le (d1 bs).1)
  have HD6 := Lib.hid (show d6 size bs = lkN size (linksI (d1 bs).1) ([], (d5 size bs).2.1, (d5 size bs).2.2) from rfl)
  have HL6 := Lib.hid HL6.out
  have HDS := Lib.hid hD
  have hN9 : linksI (d1 bs).1 ≤ 9 := HN.out
  clear hv0 hv1 HV hr7 ht7 hl7 kZ hbr hbR hD hWz
  generalize hLN : linksI (d1 bs).1 = N at *
  refine HK.out.mono ?_
  rintro e w9 ⟨rfl, rfl⟩
  go_wp2
  go_loopw [28] (fun i wr => ∃ (k : Nat) (ov : Value), i = .int .i64 k ∧ k ≤ N ∧ DecS w wr g w7.heap.size (d1 bs).1 (d2 bs).1 (d4 size bs).1 (.slice ta tn tc) (.slice la lcn lc) ov (d3 size bs).1 (d5 size bs).1 (lkN size k ([], (d5 size bs).2.1, (d5 size bs).2.2)).1 (lkN size k ([], (d5 size bs).2.1, (d5 size bs).2.2)).2.1 (lkN size k ([], (d5 size bs).2.1, (d5 size bs).2.2)).2.2) (fun i _ => N - (intOf i).toNat)
  case atStart => exact ⟨0, _, rfl, by omega, HDS.out⟩
  case round =>
    obtain ⟨k, ov, rfl, hk, hD⟩ := hrel
    clear HDS HK HDD
    by_cases hlt : k < N
    · have hkI : (k : Int) < (N : Int) := by omega
      have HLK := Lib.hid (lkN_len size k ([], (d5 size bs).2.1, (d5 size bs).2.2))
      have HSB := Lib.hid (suf_isB (HL6.out k) HB.out)
      have HSL := Lib.hid (Nat.le_trans (suf_len (HL6.out k)) HLL.out)
      have HST := Lib.hid (show lkN size (k + 1) ([], (d5 size bs).2.1, (d5 size bs).2.2) = lkStep size (lkN size k ([], (d5 size bs).2.1, (d5 size bs).2.2)) from rfl)
      generalize lkN size k ([], (d5 size bs).2.1, (d5 size bs).2.2) = st at *
      obtain ⟨s1, s2, s3⟩ := st
      simp only at hD HSB HSL HLK
      have HLK := Lib.hid (show s1.length + 1 ≤ 5000000000000 by have := HLK.out; simp only [List.length_nil] at this; omega)
      have hgr2 : w.heap.size ≤ wr.heap.size := hD.hb.size
      obtain ⟨oa, oc, rfl⟩ := hD.hO.val
      have q0 : wr.cell? ⟨w7.heap.size, 5, none⟩ = some (.slice oa s1.length oc) := hD.kR.cell 5
      have HX := Lib.hid (fun w1 (hb1 : Below wr.heap.size wr w1) => crbytes_any g s2 s3 size w1 HSB.out HSL.out (hD.below hb1).hr)
      have HDk := Lib.hid (fun w1 (hb1 : Below wr.heap.size wr w1) => hD.below hb1)
      have HBI := Lib.hid (show lkStep size (s1, s2, s3) = (s1 ++ [(bI size s2 s3).1], (bI size s2 s3).2.1, (bI size s2 s3).2.2) from rfl)
      generalize hbI : bI size s2 s3 = bi at *
      obtain ⟨P, P2, P3⟩ := bi
      clear hbI hD
      go_wp2
      go_region_law (first
        | (refine step_append_textR rfl (.tmp 31) (.tmp 35) rfl w.heap.size _ s1 rfl hD3.hO w2.heap.size 1 rfl (.slice xa xn xc) hc2 P hx2 HLK.out (Nat.le_trans hgr2 (Nat.le_trans hsz2 hbA.size)) ?_; intro l5 w5 hO5 hb5 hg5; obtain ⟨a5, c5, rfl⟩ := hO5.val; obtain ⟨q5, f5, hD5⟩ := hD3.app hO5 hg5)
        | (go_simp; go_at_call 24; refine (HX.out _ (by first | exact Below.refl _ _ | exact (Below.refl _ _).drew)).mono ?_; rintro e w2 ⟨x1, rfl, hx1, hR⟩; obtain ⟨xa, xn, xc, rfl⟩ := hx1.val; have hsz2 : wr.heap.size ≤ w2.heap.size := hR.2.size; have hD2 := DecS.read (HDk.out _ (by first | exact Below.refl _ _ | exact (Below.refl _ _).drew)) hR; have q7 : w2.cell? ⟨w7.heap.size, 5, none⟩ = some (.slice oa s1.length oc) := hD2.kR.cell 5; have hbA : Below w2.heap.size w2 (w2.alloc (.cells #[.slice xa xn xc] 22)) := (Below.refl _ _).alloc (Nat.le_refl _) _; have hD3 := hD2.below hbA; have q8 : (w2.alloc (.cells #[.slice xa xn xc] 22)).cell? ⟨w7.heap.size, 5, none⟩ = some (.slice oa s1.length oc) := hD3.kR.cell 5; have hx2 := hx1.below hbA (Nat.le_refl _); have hc2 := (Blk.new w2 22 #[.slice xa xn xc]).cell 0))
      all_goals go_wp2
      all_goals go_roundw
      all_goals first
        | exact ⟨k + 1, _, by go_num, by omega, by rw [HST.out, HBI.out]; have hD6 := hD5; rw [List.length_append, List.length_singleton] at hD6; exact hD6⟩
        | (simp [intOf]; omega)
    · obtain rfl : k = N := by omega
      have hkI : ¬ (k : Int) < (k : Int) := by omega
      rw [← HD6.out] at hD
      obtain ⟨oa, oc, rfl⟩ := hD.hO.val
      have hRV : RecV wr (.agg #[.int .i64 (d1 bs).1, .int .i64 (d2 bs).1, .slice ta tn tc, .int .i64 (d4 size bs).1, .slice la lcn lc, .slice oa (d6 size bs).1.length oc]) (d1 bs).1 (d2 bs).1 (d3 size bs).1 (d4 size bs).1 (d5 size bs).1 (d6 size bs).1 := ⟨_, _, _, rfl, hD.ht, hD.hl, hD.hO.sls⟩
      have HENC := Lib.hid (enc_any size _ _ _ _ _ _ _ wr hz0 hz1 hRV (HTT.out.below hD.hb))
      obtain ⟨c0, c1, c2, c3, c4, c5⟩ := rec6 hD.kR
      have HD := Lib.hid hD
      have HRV := Lib.hid hRV
      have HIB := Lib.hid (cont_isB size bs HB.out)
      have HDO := Lib.hid (decOk_iff size bs)
      clear hRV hD HD6 hLN hr3 hr4 hr5 hr6 hr7 ht5 hl7
      generalize codeE size (d1 bs).1 (d2 bs).1 (d3 size bs).1 (d4 size bs).1 (d5 size bs).1 (d6 size bs).1 = cE at *
      generalize contE size (d1 bs).1 (d2 bs).1 (d3 size bs).1 (d4 size bs).1 (d5 size bs).1 (d6 size bs).1 = bE at *
      go_wp2_with fail
      refine HENC.out.mono ?_
      rintro e w9 ⟨xE, rfl, hxE, hb9⟩
      have HD9 := Lib.hid (HD.out.below hb9)
      have HCE := Lib.hid (crend_any g _ _ w9 HD9.out.hr)
      obtain ⟨c0, c1, c2, c3, c4, c5⟩ := rec6 HD9.out.kR
      obtain ⟨z0, z1, z2, z3, z4, z5⟩ := rec6 HD9.out.kZ
      obtain ⟨f0, f1, f2, f3, f4, f5⟩ := rec6f HD9.out.kZ
      have hs9 := HSS.out.below (HD9.out.hb) (Nat.le_refl _)
      have HEQ := Lib.hid (bytesEq_any xE _ bE bs w9 hxE hs9 HIB.out HB.out)
      clear HENC hb9
      generalize endI (d6 size bs).2.2 (d6 size bs).2.1 = eE at *
      by_cases h1 : eE = 0
      · have h1' : (eE != 0) = false := by simpa using h1
        by_cases h2 : cE = 0
        · have h2' : (cE != 0) = false := by simpa using h2
          by_cases h3 : bE = bs
          · rw [decide_eq_true h3] at HEQ
            have HOK := Lib.hid (HDO.out.2 ⟨h1, h2, h3⟩)
            clear h1 h2 h3 HDO
            go_wp2_with fail
            refine HCE.out.mono ?_
            rintro e w10 ⟨rfl, rfl⟩
            go_wp2_with fail
            refine HEQ.out.mono ?_
            rintro e w10 ⟨rfl, rfl⟩
            go_wp2
            exact bodyPost_ret (by rw [results_cell_tmp rfl]; go_simp; exact rfl) rfl ⟨_, by rw [show decC size bs = 0 from by unfold decC; rw [if_pos HOK.out]], fun _ => (HD9.out.stored (sixSet _ _ _ _ _ _)).1, fun h => absurd HOK.out h, (HD9.out.stored (sixSet _ _ _ _ _ _)).2⟩
          · rw [decide_eq_false h3] at HEQ
            have HNO := Lib.hid (fun h => h3 (HDO.out.1 h).2.2)
            clear h1 h2 h3 HDO
            go_wp2_with fail
            refine HCE.out.mono ?_
            rintro e w10 ⟨rfl, rfl⟩
            go_wp2_with fail
            refine HEQ.out.mono ?_
            rintro e w10 ⟨rfl, rfl⟩
            go_wp2
            exact bodyPost_ret (by rw [results_cell_tmp rfl]; go_simp; exact rfl) rfl ⟨_, by rw [show decC size bs = 5 from by unfold decC; rw [if_neg HNO.out]], fun h => absurd h HNO.out, fun _ => rfl, (HD9.out.stored (sixSet _ _ _ _ _ _)).2⟩
        · have h2' : (cE != 0) = true := by simpa using h2
          have HNO := Lib.hid (fun h => h2 (HDO.out.1 h).2.1)
          clear h1 h2 HDO
          go_wp2_with fail
          refine HCE.out.mono ?_
          rintro e w10 ⟨rfl, rfl⟩
          go_wp2
          exact bodyPost_ret (by rw [results_cell_tmp rfl]; go_simp; exact rfl) rfl ⟨_, by rw [show decC size bs = 5 from by unfold decC; rw [if_neg HNO.out]], fun h => absurd h HNO.out, fun _ => rfl, (HD9.out.stored (sixSet _ _ _ _ _ _)).2⟩
      · have h1' : (eE != 0) = true := by simpa using h1
        have HNO := Lib.hid (fun h => h1 (HDO.out.1 h).1)
        clear h1 HDO
        go_wp2_with fail
        refine HCE.out.mono ?_
        rintro e w10 ⟨rfl, rfl⟩
        go_wp2
        exact bodyPost_ret (by rw [results_cell_tmp rfl]; go_simp; exact rfl) rfl ⟨_, by rw [show decC size bs = 5 from by unfold decC; rw [if_neg HNO.out]], fun h => absurd h HNO.out, fun _ => rfl, (HD9.out.stored (sixSet _ _ _ _ _ _)).2⟩

end Go.Proofs.YtjhannlioddkkaaGreatDoor

namespace Go.Proofs.YtjhannlioddkkaaGreatDoor
open Go.RowKit
set_option linter.unusedVariables false

theorem Sl.convM {w : World} {v : Value} {xs : List Int} (h : Sl w v (xs.map (Value.int .u8))) : ∀ n, (convert 22 9 v).run Tryz.prog (w.drewN n) = .ok (.string (strOfNums xs)) (w.drewN n) :=
  fun n => (h.below (below_drewN (Below.refl w.heap.size w) n) (Nat.le_refl _)).conv

set_option maxHeartbeats 2000000 in
theorem rsame_any (v1 v2 : Value) (ep ti : Int) (tr : List Int) (co : Int) (li : List Int) (ln : List (List Int)) (w : World) (hr1 : RecV w v1 ep ti tr co li ln) (hr2 : RecV w v2 ep ti tr co li ln) :
    Calls Tryz.prog 9 #[v1, v2] w fun e w' => e = .returned (.bool true) ∧ Below w.heap.size w w' := by
  obtain ⟨vt1, vl1, vk1, rfl, t1, l1, k1⟩ := hr1
  obtain ⟨vt2, vl2, vk2, rfl, t2, l2, k2⟩ := hr2
  obtain ⟨t1a, t1n, t1c, rfl⟩ := t1.val
  obtain ⟨t2a, t2n, t2c, rfl⟩ := t2.val
  obtain ⟨l1a, l1n, l1c, rfl⟩ := l1.val
  obtain ⟨l2a, l2n, l2c, rfl⟩ := l2.val
  obtain ⟨k1a, k1c, rfl, hk1c, hk1m⟩ := k1.shape
  obtain ⟨k2a, k2c, rfl, hk2c, hk2m⟩ := k2.shape
  have hb2 : Below w.heap.size w ((w.alloc (.cells #[.int .i64 ep, .int .i64 ti, .slice t1a t1n t1c, .int .i64 co, .slice l1a l1n l1c, .slice k1a ln.length k1c] 25)).alloc (.cells #[.int .i64 ep, .int .i64 ti, .slice t2a t2n t2c, .int .i64 co, .slice l2a l2n l2c, .slice k2a ln.length k2c] 25)) := ((Below.refl _ _).alloc (Nat.le_refl _) _).alloc (by simp) _
  have b1 := (Blk.new w 25 #[.int .i64 ep, .int .i64 ti, .slice t1a t1n t1c, .int .i64 co, .slice l1a l1n l1c, .slice k1a ln.length k1c]).alloc (.cells #[.int .i64 ep, .int .i64 ti, .slice t2a t2n t2c, .int .i64 co, .slice l2a l2n l2c, .slice k2a ln.length k2c] 25)
  have b2 : Blk ((w.alloc (.cells #[.int .i64 ep, .int .i64 ti, .slice t1a t1n t1c, .int .i64 co, .slice l1a l1n l1c, .slice k1a ln.length k1c] 25)).alloc (.cells #[.int .i64 ep, .int .i64 ti, .slice t2a t2n t2c, .int .i64 co, .slice l2a l2n l2c, .slice k2a ln.length k2c] 25)) (w.heap.size + 1) 25 #[.int .i64 ep, .int .i64 ti, .slice t2a t2n t2c, .int .i64 co, .slice l2a l2n l2c, .slice k2a ln.length k2c] := by
    have := Blk.new (w.alloc (.cells #[.int .i64 ep, .int .i64 ti, .slice t1a t1n t1c, .int .i64 co, .slice l1a l1n l1c, .slice k1a ln.length k1c] 25)) 25 #[.int .i64 ep, .int .i64 ti, .slice t2a t2n t2c, .int .i64 co, .slice l2a l2n l2c, .slice k2a ln.length k2c]
    simpa using this
  have ct1 := (t1.below hb2 (Nat.le_refl _)).conv
  have ct2 := (t2.below hb2 (Nat.le_refl _)).conv
  have cl1 := (l1.below hb2 (Nat.le_refl _)).conv
  have cl2 := (l2.below hb2 (Nat.le_refl _)).conv
  have HK1 := Lib.hid (k1.below hb2 (Nat.le_refl _))
  have HK2 := Lib.hid (k2.below hb2 (Nat.le_refl _))
  have HB1 := Lib.hid b1
  have HB2 := Lib.hid b2
  have HBB := Lib.hid hb2
  clear t1 t2 l1 l2 k1 k2 b1 b2 hb2
  go_enter Tryz.func9, Tryz.ntmps9
  go_upto_region 1 with (fail)
  generalize ((w.alloc (.cells #[.int .i64 ep, .int .i64 ti, .slice t1a t1n t1c, .int .i64 co, .slice l1a l1n l1c, .slice k1a ln.length k1c] 25)).alloc (.cells #[.int .i64 ep, .int .i64 ti, .slice t2a t2n t2c, .int .i64 co, .slice l2a l2n l2c, .slice k2a ln.length k2c] 25)) = W at *
  obtain ⟨c0, c1, c2, c3, c4, c5⟩ := rec6 HB1.out
  obtain ⟨e0, e1, e2, e3, e4, e5⟩ := rec6 HB2.out
  go_wp2
  go_loopw [55] (fun i wr => ∃ k : Nat, k ≤ ln.length ∧ i = .int .i64 k ∧ Below W.heap.size W wr) (fun i _ => ln.length - (intOf i).toNat)
  case atStart => exact ⟨0, by omega, rfl, Below.refl _ _⟩
  case round =>
    clear c0 c1 c2 c3 c4 c5 e0 e1 e2 e3 e4 e5 ct1 ct2 cl1 cl2
    obtain ⟨k, hk, rfl, hbr⟩ := hrel
    by_cases hlt : k < ln.length
    · obtain ⟨b1, o1, rfl, hb1, u1, k1, s1⟩ := (HK1.out.below hbr (Nat.le_refl _)).at hlt
      obtain ⟨b2, o2, rfl, hb2, u2, k2, s2⟩ := (HK2.out.below hbr (Nat.le_refl _)).at hlt
      have hkI : (k : Int) < (ln.length : Int) := by omega
      have c5 := (rec6 (HB1.out.belowS hbr)).2.2.2.2.2
      have e5 := (rec6 (HB2.out.belowS hbr)).2.2.2.2.2
      have HBR := Lib.hid hbr
      generalize ln.getD k [] = P at *
      have cv1 := s1.convM
      have cv2 := s2.convM
      obtain ⟨xa, xn, xc, rfl⟩ := s1.val
      obtain ⟨ya, yn, yc, rfl⟩ := s2.val
      clear s1 s2 hbr
      go_wp2
      go_quiet (fail)
      have hbr := below_drewN HBR.out nq
      generalize wr.drewN nq = w2 at *
      go_wp2
      go_roundw
      case rel => exact ⟨k + 1, by omega, by go_num, hbr⟩
      case measure => simp [intOf]; omega
    · have hkI : ¬ (k : Int) < (ln.length : Int) := by omega
      have hbb := below_trans2 HBB.out hbr
      clear hbr
      go_wp2
      go_ret
      exact ⟨rfl, hbb⟩

end Go.Proofs.YtjhannlioddkkaaGreatDoor

namespace Go.Proofs.YtjhannlioddkkaaGreatDoor
open Go.RowKit
set_option linter.unusedVariables false

theorem can1 : canI 1 0 0 [1] 0 [2] [] := by decide
theorem enc1 : encI 0 0 [1] 0 [2] [] = [0, 0, 1, 1, 1, 0, 1, 1, 2] := by decide

set_option maxHeartbeats 400000 in
theorem awake13_any (w : World) (hT : TzTab w) : Calls Tryz.prog 13 #[] w fun e w' => e = .returned (.bool true) ∧ Below w.heap.size w w' := by
  have hB : IsB [0, 0, 1, 1, 1, 0, 1, 1, 2] := by intro n hn; simp at hn; omega
  have hb1 : Below w.heap.size w (w.alloc (.cells #[.int .u8 1] 5)) := (Below.refl _ _).alloc (Nat.le_refl _) _
  have hb2 : Below w.heap.size w ((w.alloc (.cells #[.int .u8 1] 5)).alloc (.cells #[.int .u8 2] 5)) := hb1.alloc hb1.size _
  have hs1 : Sl ((w.alloc (.cells #[.int .u8 1] 5)).alloc (.cells #[.int .u8 2] 5)) (.slice (some ⟨w.heap.size, 0, none⟩) 1 1) ([1].map (Value.int .u8)) := (Sl.lit w #[.int .u8 1] 5 (by simp [maxLen])).below ((Below.refl _ _).alloc (Nat.le_refl _) _) (Nat.le_refl _)
  have hs2 : Sl ((w.alloc (.cells #[.int .u8 1] 5)).alloc (.cells #[.int .u8 2] 5)) (.slice (some ⟨w.heap.size + 1, 0, none⟩) 1 1) ([2].map (Value.int .u8)) := by
    have := Sl.lit (w.alloc (.cells #[.int .u8 1] 5)) #[.int .u8 2] 5 (by simp [maxLen])
    simpa using this
  have hR : RecV ((w.alloc (.cells #[.int .u8 1] 5)).alloc (.cells #[.int .u8 2] 5)) (.agg #[.int .i64 0, .int .i64 0, .slice (some ⟨w.heap.size, 0, none⟩) 1 1, .int .i64 0, .slice (some ⟨w.heap.size + 1, 0, none⟩) 1 1, .slice none 0 0]) 0 0 [1] 0 [2] [] := ⟨_, _, _, rfl, hs1, hs2, ⟨[], Sl.nil _, rfl, fun i u bs hu _ => by simp at hu⟩⟩
  have HE := Lib.hid (enc_any 1 0 0 [1] 0 [2] [] _ _ (by decide) (by decide) hR (hT.below hb2))
  rw [show codeE 1 0 0 [1] 0 [2] [] = 0 from by unfold codeE; rw [if_pos can1], show contE 1 0 0 [1] 0 [2] [] = [0, 0, 1, 1, 1, 0, 1, 1, 2] from by unfold contE; rw [if_pos can1, enc1]] at HE
  clear hR hs1 hs2 hT hb1
  go_enter Tryz.func13, Tryz.ntmps13
  go_wp2_with fail
  generalize ((w.alloc (.cells #[.int .u8 1] 5)).alloc (.cells #[.int .u8 2] 5)) = w1 at *
  refine HE.out.mono ?_
  rintro e w2 ⟨x, rfl, hs2, hb3⟩
  have hb4 := below_trans2 hb2 hb3
  clear hb2 hb3 HE
  go_wp2_with fail
  refine (bytesEq_same _ _ [0, 0, 1, 1, 1, 0, 1, 1, 2] _ (hs2.below ((Below.refl _ _).alloc (Nat.le_refl _) _) (Nat.le_refl _)) (Sl.lit w2 #[.int .u8 0, .int .u8 0, .int .u8 1, .int .u8 1, .int .u8 1, .int .u8 0, .int .u8 1, .int .u8 1, .int .u8 2] _ (by simp [maxLen])) hB).mono ?_
  rintro e w3 ⟨rfl, rfl⟩
  go_wp2
  go_ret
  exact ⟨rfl, hb4.alloc hb4.size _⟩

end Go.Proofs.YtjhannlioddkkaaGreatDoor

namespace Go.Proofs.YtjhannlioddkkaaGreatDoor
open Go.RowKit
set_option linter.unusedVariables false

theorem enc_short {size ep ti co : Int} {tr li : List Int} {ln : List (List Int)} (h : canI size ep ti tr co li ln) : (encI ep ti tr co li ln).length ≤ 1000 := by
  rw [← encTo_all]; exact encTo_len h _

theorem RecV.val {w : World} {v : Value} {ep ti co : Int} {tr li : List Int} {ln : List (List Int)} (h : RecV w v ep ti tr co li ln) : ∃ ta tn tc la lc lcc ka kc, v = .agg #[.int .i64 ep, .int .i64 ti, .slice ta tn tc, .int .i64 co, .slice la lc lcc, .slice ka ln.length kc] := by
  obtain ⟨vt, vl, vk, rfl, h1, h2, h3⟩ := h
  obtain ⟨_, _, _, rfl⟩ := h1.val
  obtain ⟨_, _, _, rfl⟩ := h2.val
  obtain ⟨_, _, rfl, _, _⟩ := h3.shape
  exact ⟨_, _, _, _, _, _, _, _, rfl⟩

end Go.Proofs.YtjhannlioddkkaaGreatDoor

namespace Go.Proofs.YtjhannlioddkkaaGreatDoor
open Go.RowKit
set_option linter.unusedVariables false

/-- The value is a signed record. -/
def SgnV (w : World) (v : Value) (ep ti : Int) (tr : List Int) (co : Int) (li : List Int) (ln : List (List Int)) (idx : Int) (parts path : List (List Int)) : Prop :=
  ∃ vt vl vk vp vq, v = .agg #[.int .i64 ep, .int .i64 ti, vt, .int .i64 co, vl, vk, .int .i64 idx, vp, vq] ∧ RecV w (.agg #[.int .i64 ep, .int .i64 ti, vt, .int .i64 co, vl, vk]) ep ti tr co li ln ∧ SigV w (.agg #[.int .i64 idx, vp, vq]) idx parts path
theorem SgnV.below {w w' : World} {v : Value} {ep ti co idx : Int} {tr li : List Int} {ln parts path : List (List Int)} (h : SgnV w v ep ti tr co li ln idx parts path) {B : Nat} (hb : Below B w w') (hB : w.heap.size ≤ B) : SgnV w' v ep ti tr co li ln idx parts path := by
  obtain ⟨vt, vl, vk, vp, vq, rfl, h1, h2⟩ := h
  exact ⟨vt, vl, vk, vp, vq, rfl, h1.below hb hB, h2.below hb hB⟩
theorem rec9 {w : World} {g : Nat} {t : TypeId} {x0 x1 x2 x3 x4 x5 x6 x7 x8 : Value} (k : Blk w g t #[x0, x1, x2, x3, x4, x5, x6, x7, x8]) :
    (w.cell? ⟨g, 0, none⟩ = some x0 ∧ w.cell? ⟨g, 1, none⟩ = some x1 ∧ w.cell? ⟨g, 2, none⟩ = some x2 ∧ w.cell? ⟨g, 3, none⟩ = some x3 ∧ w.cell? ⟨g, 4, none⟩ = some x4 ∧ w.cell? ⟨g, 5, none⟩ = some x5) ∧ w.cell? ⟨g, 6, none⟩ = some x6 ∧ w.cell? ⟨g, 7, none⟩ = some x7 ∧ w.cell? ⟨g, 8, none⟩ = some x8 := ⟨⟨k.cell 0, k.cell 1, k.cell 2, k.cell 3, k.cell 4, k.cell 5⟩, k.cell 6, k.cell 7, k.cell 8⟩

def wholeI (size idx : Int) (parts path : List (List Int)) : Prop :=
  (0 ≤ idx ∧ idx ≤ 255) ∧ (parts.length : Int) = wrap64 (wrap64 (4 * size) + 5) ∧ path.length ≤ 8 ∧ (∀ p ∈ parts, (p.length : Int) = size) ∧ ∀ p ∈ path, (p.length : Int) = size
instance (size idx : Int) (parts path : List (List Int)) : Decidable (wholeI size idx parts path) := by unfold wholeI; infer_instance
def sealOk (size ep ti : Int) (tr : List Int) (co : Int) (li : List Int) (ln : List (List Int)) (idx : Int) (parts path : List (List Int)) : Prop := canI size ep ti tr co li ln ∧ wholeI size idx parts path
instance (size ep ti co idx : Int) (tr li : List Int) (ln parts path : List (List Int)) : Decidable (sealOk size ep ti tr co li ln idx parts path) := by unfold sealOk; infer_instance
def codeS (size ep ti : Int) (tr : List Int) (co : Int) (li : List Int) (ln : List (List Int)) (idx : Int) (parts path : List (List Int)) : Int := if sealOk size ep ti tr co li ln idx parts path then 0 else 1
def sealI (ep ti : Int) (tr : List Int) (co : Int) (li : List Int) (ln : List (List Int)) (idx : Int) (parts path : List (List Int)) : List Int := sigTo (bytesI (encI ep ti tr co li ln)) idx parts path 2
def contS (size ep ti : Int) (tr : List Int) (co : Int) (li : List Int) (ln : List (List Int)) (idx : Int) (parts path : List (List Int)) : List Int := if sealOk size ep ti tr co li ln idx parts path then sealI ep ti tr co li ln idx parts path else []

theorem flat_size (n : Nat) : ∀ (l : List (List Int)), (∀ p ∈ l, p.length = n) → l.flatten.length = l.length * n
  | [], _ => by simp
  | p :: l, h => by
    rw [List.flatten_cons, List.length_append, h p (by simp), flat_size n l (fun q hq => h q (by simp [hq])), List.length_cons, Nat.add_mul]; omega
theorem four_size {size : Int} (h : 1 ≤ size ∧ size ≤ 32) : wrap64 (wrap64 (4 * size) + 5) = 4 * size + 5 := by
  unfold wrap64; omega
theorem whole_flat {size idx : Int} {parts path : List (List Int)} (hs : 1 ≤ size ∧ size ≤ 32) (h : wholeI size idx parts path) : parts.flatten.length ≤ 5000 ∧ path.flatten.length ≤ 256 ∧ parts.flatten.length = (4 * size.toNat + 5) * size.toNat ∧ path.flatten.length = path.length * size.toNat := by
  obtain ⟨_, h2, h3, h4, h5⟩ := h
  rw [four_size hs] at h2
  obtain ⟨n, rfl⟩ : ∃ n : Nat, size = n := ⟨size.toNat, by omega⟩
  have e1 := flat_size n parts (fun p hp => by have := h4 p hp; omega)
  have e2 := flat_size n path (fun p hp => by have := h5 p hp; omega)
  have hn : n ≤ 32 := by omega
  have hp : parts.length = 4 * n + 5 := by omega
  rw [hp] at e1
  have b1 : (4 * n + 5) * n ≤ 133 * 32 := Nat.mul_le_mul (by omega) hn
  have b2 : path.length * n ≤ 8 * 32 := Nat.mul_le_mul h3 hn
  simp only [Int.toNat_natCast]
  exact ⟨by omega, by omega, e1, e2⟩
theorem seal_len {size ep ti co idx : Int} {tr li : List Int} {ln parts path : List (List Int)} (h : sealOk size ep ti tr co li ln idx parts path) : (sealI ep ti tr co li ln idx parts path).length ≤ 7000 := by
  obtain ⟨h1, h2⟩ := h
  have b1 := enc_short h1
  have b2 := bytesI_len _ (show (encI ep ti tr co li ln).length ≤ 4611686018427387904 by omega)
  have b3 := uintN_len idx.toNat (by have := h2.1; omega)
  have b4 := whole_flat (by have := h1.1; omega) h2
  unfold sealI sigTo
  simp only [List.length_append]
  omega

theorem cbytes_e0 (u : Value) (xs : List Int) (w : World) (hn : xs.length ≤ 100000000000000) (hu : Sl w u (xs.map (Value.int .u8))) :
    Calls Tryz.prog 18 #[.slice none 0 0, u] w fun e w' => ∃ v', e = .returned v' ∧ Sl w' v' ((bytesI xs).map (Value.int .u8)) ∧ Below w.heap.size w w' :=
  (cbytes_any (.slice none 0 0) [] u xs w (by simpa using hn) (Sl.nil _) hu).mono fun e w' ⟨v', he, ho, hb⟩ => ⟨v', he, by simpa using Sl.of_owns ho, hb⟩

set_option maxRecDepth 100000 in
set_option maxHeartbeats 8000000 in
theorem seal_any (size ep ti : Int) (tr : List Int) (co : Int) (li : List Int) (ln : List (List Int)) (idx : Int) (parts path : List (List Int)) (v : Value) (w : World) (hz0 : -9223372036854775808 ≤ size) (hz1 : size ≤ 9223372036854775807) (hg : SgnV w v ep ti tr co li ln idx parts path) (hT : TzTab w) :
    Calls Tryz.prog 4 #[.int .i64 size, v] w fun e w' => ∃ x, e = .returned (.tuple #[x, .int .i64 (codeS size ep ti tr co li ln idx parts path)]) ∧ Sl w' x ((contS size ep ti tr co li ln idx parts path).map (Value.int .u8)) ∧ Below w.heap.size w w' := by
  obtain ⟨vt, vl, vk, vp, vq, rfl, hr, hgs⟩ := hg
  obtain ⟨ta, tn, tc, la, lc, lcc, ka, kc, he⟩ := hr.val
  cases he
  obtain ⟨pa, pc, qa, qc, he⟩ := hgs.val
  cases he
  have hb1 : Below w.heap.size w (w.alloc (.cells #[.int .i64 ep, .int .i64 ti, .slice ta tn tc, .int .i64 co, .slice la lc lcc, .slice ka ln.length kc, .int .i64 idx, .slice pa parts.length pc, .slice qa path.length qc] 29)) := (Below.refl _ _).alloc (Nat.le_refl _) _
  have kR := Blk.new w 29 #[.int .i64 ep, .int .i64 ti, .slice ta tn tc, .int .i64 co, .slice la lc lcc, .slice ka ln.length kc, .int .i64 idx, .slice pa parts.length pc, .slice qa path.length qc]
  have HE := Lib.hid (enc_any size ep ti tr co li ln _ (w.alloc (.cells #[.int .i64 ep, .int .i64 ti, .slice ta tn tc, .int .i64 co, .slice la lc lcc, .slice ka ln.length kc, .int .i64 idx, .slice pa parts.length pc, .slice qa path.length qc] 29)) hz0 hz1 (hr.below hb1 (Nat.le_refl _)) (hT.below hb1))
  have HGS := Lib.hid (fun w' (h : Below w.heap.size w w') => hgs.below h (Nat.le_refl _))
  have HPL := Lib.hid (show parts.length ≤ 9223372036854775807 by obtain ⟨_, _, e, h, _⟩ := hgs; cases e; exact Nat.le_trans h.shape.choose_spec.choose_spec.2.1 h.shape.choose_spec.choose_spec.2.2)
  have HDS := Lib.hid (show codeS size ep ti tr co li ln idx parts path = (if sealOk size ep ti tr co li ln idx parts path then 0 else 1) ∧ contS size ep ti tr co li ln idx parts path = (if sealOk size ep ti tr co li ln idx parts path then sealI ep ti tr co li ln idx parts path else []) from ⟨rfl, rfl⟩)
  generalize codeS size ep ti tr co li ln idx parts path = CC at *
  generalize contS size ep ti tr co li ln idx parts path = CB at *
  clear hr hgs hT
  have HSC : Hid (sealOk size ep ti tr co li ln idx parts path ↔ (canI size ep ti tr co li ln ∧ wholeI size idx parts path)) := ⟨fun h => h, fun h => h⟩
  have HWH : Hid (wholeI size idx parts path ↔ ((0 ≤ idx ∧ idx ≤ 255) ∧ (parts.length : Int) = wrap64 (wrap64 (4 * size) + 5) ∧ path.length ≤ 8 ∧ (∀ p ∈ parts, (p.length : Int) = size) ∧ ∀ p ∈ path, (p.length : Int) = size)) := ⟨fun h => h, fun h => h⟩
  by_cases hC : canI size ep ti tr co li ln
  · rw [show codeE size ep ti tr co li ln = 0 from by unfold codeE; rw [if_pos hC], show contE size ep ti tr co li ln = encI ep ti tr co li ln from by unfold contE; rw [if_pos hC]] at HE
    have HCC := Lib.hid hC
    clear hC
    go_enter Tryz.func4, Tryz.ntmps4
    go_wp2_with fail
    refine HE.out.mono ?_
    rintro e w2 ⟨x2, rfl, hx2, hb2⟩
    have hbr := below_trans2 hb1 hb2
    obtain ⟨-, c6, c7, c8⟩ := rec9 (kR.belowS hb2)
    have hbA : Below w2.heap.size w2 (w2.alloc (.cells #[.int .i64 idx, .slice pa parts.length pc, .slice qa path.length qc] 27)) := (Below.refl _ _).alloc (Nat.le_refl _) _
    have kA := Blk.new w2 27 #[.int .i64 idx, .slice pa parts.length pc, .slice qa path.length qc]
    have hx2 := hx2.below hbA (Nat.le_refl _)
    have hbr := below_trans2 hbr hbA
    clear hb1 hb2 HE
    go_upto_region 3 with (fail)
    generalize (w2.alloc (.cells #[.int .i64 idx, .slice pa parts.length pc, .slice qa path.length qc] 27)) = w3 at *
    clear c6 c7 c8 hbA
    obtain ⟨d0, d1, d2⟩ := rec3 kA
    have HSG := Lib.hid (HGS.out w3 hbr)
    have HBR := Lib.hid hbr
    have HW := Lib.hid (within_any idx 255 w3)
    have HS1 := Lib.hid (rsized_any size (.slice pa parts.length pc) parts w3 HSG.out.parts.1)
    have HS2 := Lib.hid (rsized_any size (.slice qa path.length qc) path w3 HSG.out.parts.2)
    clear hbr
    by_cases h0 : 0 ≤ idx ∧ idx ≤ 255
    rotate_left
    · skip
      rw [decide_eq_false h0] at HW
      have HNO := Lib.hid (show ¬ sealOk size ep ti tr co li ln idx parts path from fun h => h0 (HWH.out.1 h.2).1)
      clear h0
      go_wp2_with fail
      refine HW.out.mono ?_
      rintro e w4 ⟨rfl, rfl⟩
      go_wp2
      go_ret2
      rw [HDS.out.1, HDS.out.2, if_neg HNO.out, if_neg HNO.out]
      exact ⟨_, rfl, Sl.nil _, HBR.out⟩
    rw [decide_eq_true h0] at HW
    by_cases h1 : (parts.length : Int) = wrap64 (wrap64 (4 * size) + 5)
    rotate_left
    · skip
      have u1 : ((parts.length : Int) == wrap64 (wrap64 (4 * size) + 5)) = false := by simp [h1]
      have HNO := Lib.hid (show ¬ sealOk size ep ti tr co li ln idx parts path from fun h => h1 (HWH.out.1 h.2).2.1)
      clear h0 h1
      go_wp2_with fail
      refine HW.out.mono ?_
      rintro e w4 ⟨rfl, rfl⟩
      go_wp2
      go_ret2
      rw [HDS.out.1, HDS.out.2, if_neg HNO.out, if_neg HNO.out]
      exact ⟨_, rfl, Sl.nil _, HBR.out⟩
    have u1 : ((parts.length : Int) == wrap64 (wrap64 (4 * size) + 5)) = true := by simp [h1]
    by_cases h2 : path.length ≤ 8
    rotate_left
    · skip
      have u2 : ¬ (path.length : Int) ≤ 8 := by omega
      have HNO := Lib.hid (show ¬ sealOk size ep ti tr co li ln idx parts path from fun h => h2 (HWH.out.1 h.2).2.2.1)
      clear h0 h1 h2
      go_wp2_with fail
      refine HW.out.mono ?_
      rintro e w4 ⟨rfl, rfl⟩
      go_wp2
      go_ret2
      rw [HDS.out.1, HDS.out.2, if_neg HNO.out, if_neg HNO.out]
      exact ⟨_, rfl, Sl.nil _, HBR.out⟩
    have u2 : (path.length : Int) ≤ 8 := by omega
    by_cases h3 : ∀ p ∈ parts, (p.length : Int) = size
    rotate_left
    · skip
      rw [decide_eq_false h3] at HS1
      have HNO := Lib.hid (show ¬ sealOk size ep ti tr co li ln idx parts path from fun h => h3 (HWH.out.1 h.2).2.2.2.1)
      clear h0 h1 h2 h3
      go_wp2_with fail
      refine HW.out.mono ?_
      rintro e w4 ⟨rfl, rfl⟩
      go_wp2_with fail
      refine HS1.out.mono ?_
      rintro e w4 ⟨rfl, rfl⟩
      go_wp2
      go_ret2
      rw [HDS.out.1, HDS.out.2, if_neg HNO.out, if_neg HNO.out]
      exact ⟨_, rfl, Sl.nil _, HBR.out⟩
    rw [decide_eq_true h3] at HS1
    by_cases h4 : ∀ p ∈ path, (p.length : Int) = size
    rotate_left
    · skip
      rw [decide_eq_false h4] at HS2
      have HNO := Lib.hid (show ¬ sealOk size ep ti tr co li ln idx parts path from fun h => h4 (HWH.out.1 h.2).2.2.2.2)
      clear h0 h1 h2 h3 h4
      go_wp2_with fail
      refine HW.out.mono ?_
      rintro e w4 ⟨rfl, rfl⟩
      go_wp2_with fail
      refine HS1.out.mono ?_
      rintro e w4 ⟨rfl, rfl⟩
      go_wp2_with fail
      refine HS2.out.mono ?_
      rintro e w4 ⟨rfl, rfl⟩
      go_wp2
      go_ret2
      rw [HDS.out.1, HDS.out.2, if_neg HNO.out, if_neg HNO.out]
      exact ⟨_, rfl, Sl.nil _, HBR.out⟩
    rw [decide_eq_true h4] at HS2
    have HOK := Lib.hid (show sealOk size ep ti tr co li ln idx parts path from ⟨HCC.out, HWH.out.2 ⟨h0, h1, h2, h3, h4⟩⟩)
    have hi0 := h0
    clear h0 h1 h2 h3 h4
    go_wp2_with fail
    refine HW.out.mono ?_
    rintro e w4 ⟨rfl, rfl⟩
    go_wp2_with fail
    refine HS1.out.mono ?_
    rintro e w4 ⟨rfl, rfl⟩
    go_wp2_with fail
    refine HS2.out.mono ?_
    rintro e w4 ⟨rfl, rfl⟩
    go_wp2
    have HK := Lib.hid (fun w' (h : Below w3.heap.size w3 w') => rec3 (kA.belowS h))
    have hG := Lib.hid (HK.out _ (Below.refl _ _))
    have HSL := Lib.hid (seal_len HOK.out)
    have HEL := Lib.hid (enc_short HOK.out.1)
    have HSI := Lib.hid (show sealI ep ti tr co li ln idx parts path = sigTo (bytesI (encI ep ti tr co li ln)) idx parts path 2 from rfl)
    generalize encI ep ti tr co li ln = en at *
    have HC1 := Lib.hid (fun w' (h : Below w3.heap.size w3 w') => cbytes_e0 x2 en w' (by have := HEL.out; omega) (hx2.below h (Nat.le_refl _)))
    have HC2 := Lib.hid (fun v w' (h : Below w3.heap.size w3 w') (hv : Sl w' v ((bytesI en).map (Value.int .u8))) => swrite_any v (bytesI en) _ idx parts path w' hi0.1 (by have := hi0.2; omega) (by have h := HSL.out; rw [HSI.out] at h; omega) hv (HSG.out.below h (Nat.le_refl _)))
    clear hx2 hi0 d0 d1 d2 kA
    go_region_held3 (fun w' => w'.cell? ⟨w2.heap.size, 0, none⟩ = some (.int .i64 idx) ∧ w'.cell? ⟨w2.heap.size, 1, none⟩ = some (.slice pa parts.length pc) ∧ w'.cell? ⟨w2.heap.size, 2, none⟩ = some (.slice qa path.length qc)) (exact hG.out) (first | (go_at_call 17; refine (HC2.out v5 _ hb5 hs5).mono ?_; rintro e w6 ⟨v6, rfl, ho6, hb6⟩; have hs6 := Sl.of_owns ho6; have hb6 := below_trans2 hb5 hb6; have hG := Lib.hid (HK.out _ hb6)) | (go_at_call 18; refine (HC1.out _ (by first | exact Below.refl _ _ | exact (Below.refl _ _).drew)).mono ?_; rintro e w5 ⟨v5, rfl, hs5, hb5⟩; have hb5 : Below w3.heap.size w3 w5 := ⟨hb5.os, hb5.tape, hb5.output, hb5.size, hb5.block⟩; have hG := Lib.hid (HK.out _ hb5)))
    all_goals
      have hbz := below_trans2 HBR.out hb6
      go_wp2
      go_ret2
      rw [HDS.out.1, HDS.out.2, if_pos HOK.out, if_pos HOK.out, HSI.out]
      exact ⟨_, rfl, hs6, hbz⟩
  · rw [show codeE size ep ti tr co li ln = 1 from by unfold codeE; rw [if_neg hC], show contE size ep ti tr co li ln = [] from by unfold contE; rw [if_neg hC]] at HE
    go_enter Tryz.func4, Tryz.ntmps4
    go_wp2_with fail
    refine HE.out.mono ?_
    rintro e w2 ⟨x2, rfl, hx2, hb2⟩
    have hbr := below_trans2 hb1 hb2
    obtain ⟨-, c6, c7, c8⟩ := rec9 (kR.belowS hb2)
    have hbA : Below w2.heap.size w2 (w2.alloc (.cells #[.int .i64 idx, .slice pa parts.length pc, .slice qa path.length qc] 27)) := (Below.refl _ _).alloc (Nat.le_refl _) _
    have kA := Blk.new w2 27 #[.int .i64 idx, .slice pa parts.length pc, .slice qa path.length qc]
    have hx2 := hx2.below hbA (Nat.le_refl _)
    have hbr := below_trans2 hbr hbA
    clear hb1 hb2 HE
    go_upto_region 3 with (fail)
    generalize (w2.alloc (.cells #[.int .i64 idx, .slice pa parts.length pc, .slice qa path.length qc] 27)) = w3 at *
    clear c6 c7 c8 hbA
    obtain ⟨d0, d1, d2⟩ := rec3 kA
    have HSG := Lib.hid (HGS.out w3 hbr)
    have HBR := Lib.hid hbr
    have HW := Lib.hid (within_any idx 255 w3)
    have HS1 := Lib.hid (rsized_any size (.slice pa parts.length pc) parts w3 HSG.out.parts.1)
    have HS2 := Lib.hid (rsized_any size (.slice qa path.length qc) path w3 HSG.out.parts.2)
    clear hbr
    by_cases h0 : 0 ≤ idx ∧ idx ≤ 255
    rotate_left
    · skip
      rw [decide_eq_false h0] at HW
      have HNO := Lib.hid (show ¬ sealOk size ep ti tr co li ln idx parts path from fun h => h0 (HWH.out.1 h.2).1)
      clear h0
      go_wp2_with fail
      refine HW.out.mono ?_
      rintro e w4 ⟨rfl, rfl⟩
      go_wp2
      go_ret2
      rw [HDS.out.1, HDS.out.2, if_neg HNO.out, if_neg HNO.out]
      exact ⟨_, rfl, Sl.nil _, HBR.out⟩
    rw [decide_eq_true h0] at HW
    by_cases h1 : (parts.length : Int) = wrap64 (wrap64 (4 * size) + 5)
    rotate_left
    · skip
      have u1 : ((parts.length : Int) == wrap64 (wrap64 (4 * size) + 5)) = false := by simp [h1]
      have HNO := Lib.hid (show ¬ sealOk size ep ti tr co li ln idx parts path from fun h => h1 (HWH.out.1 h.2).2.1)
      clear h0 h1
      go_wp2_with fail
      refine HW.out.mono ?_
      rintro e w4 ⟨rfl, rfl⟩
      go_wp2
      go_ret2
      rw [HDS.out.1, HDS.out.2, if_neg HNO.out, if_neg HNO.out]
      exact ⟨_, rfl, Sl.nil _, HBR.out⟩
    have u1 : ((parts.length : Int) == wrap64 (wrap64 (4 * size) + 5)) = true := by simp [h1]
    by_cases h2 : path.length ≤ 8
    rotate_left
    · skip
      have u2 : ¬ (path.length : Int) ≤ 8 := by omega
      have HNO := Lib.hid (show ¬ sealOk size ep ti tr co li ln idx parts path from fun h => h2 (HWH.out.1 h.2).2.2.1)
      clear h0 h1 h2
      go_wp2_with fail
      refine HW.out.mono ?_
      rintro e w4 ⟨rfl, rfl⟩
      go_wp2
      go_ret2
      rw [HDS.out.1, HDS.out.2, if_neg HNO.out, if_neg HNO.out]
      exact ⟨_, rfl, Sl.nil _, HBR.out⟩
    have u2 : (path.length : Int) ≤ 8 := by omega
    by_cases h3 : ∀ p ∈ parts, (p.length : Int) = size
    rotate_left
    · skip
      rw [decide_eq_false h3] at HS1
      have HNO := Lib.hid (show ¬ sealOk size ep ti tr co li ln idx parts path from fun h => h3 (HWH.out.1 h.2).2.2.2.1)
      clear h0 h1 h2 h3
      go_wp2_with fail
      refine HW.out.mono ?_
      rintro e w4 ⟨rfl, rfl⟩
      go_wp2_with fail
      refine HS1.out.mono ?_
      rintro e w4 ⟨rfl, rfl⟩
      go_wp2
      go_ret2
      rw [HDS.out.1, HDS.out.2, if_neg HNO.out, if_neg HNO.out]
      exact ⟨_, rfl, Sl.nil _, HBR.out⟩
    rw [decide_eq_true h3] at HS1
    by_cases h4 : ∀ p ∈ path, (p.length : Int) = size
    rotate_left
    · skip
      rw [decide_eq_false h4] at HS2
      have HNO := Lib.hid (show ¬ sealOk size ep ti tr co li ln idx parts path from fun h => h4 (HWH.out.1 h.2).2.2.2.2)
      clear h0 h1 h2 h3 h4
      go_wp2_with fail
      refine HW.out.mono ?_
      rintro e w4 ⟨rfl, rfl⟩
      go_wp2_with fail
      refine HS1.out.mono ?_
      rintro e w4 ⟨rfl, rfl⟩
      go_wp2_with fail
      refine HS2.out.mono ?_
      rintro e w4 ⟨rfl, rfl⟩
      go_wp2
      go_ret2
      rw [HDS.out.1, HDS.out.2, if_neg HNO.out, if_neg HNO.out]
      exact ⟨_, rfl, Sl.nil _, HBR.out⟩
    rw [decide_eq_true h4] at HS2
    have HNO := Lib.hid (show ¬ sealOk size ep ti tr co li ln idx parts path from fun h => hC h.1)
    clear h0 h1 h2 h3 h4
    go_wp2_with fail
    refine HW.out.mono ?_
    rintro e w4 ⟨rfl, rfl⟩
    go_wp2_with fail
    refine HS1.out.mono ?_
    rintro e w4 ⟨rfl, rfl⟩
    go_wp2_with fail
    refine HS2.out.mono ?_
    rintro e w4 ⟨rfl, rfl⟩
    go_wp2
    go_ret2
    rw [HDS.out.1, HDS.out.2, if_neg HNO.out, if_neg HNO.out]
    exact ⟨_, rfl, Sl.nil _, HBR.out⟩

end Go.Proofs.YtjhannlioddkkaaGreatDoor

namespace Go.Proofs.YtjhannlioddkkaaGreatDoor
open Go.RowKit
set_option linter.unusedVariables false

/-- Some number of the first k of x is less than that of y. -/
def ltUpto (x y : List Int) (k : Nat) : Bool := (List.range k).any fun j => decide (x.getD j 0 < y.getD j 0)

theorem ltUpto_succ (x y : List Int) (k : Nat) : ltUpto x y (k + 1) = (ltUpto x y k || decide (x.getD k 0 < y.getD k 0)) := by
  simp [ltUpto, List.range_succ]

theorem ltUpto_false {x y : List Int} {k : Nat} (h : ltUpto x y k = false) (j : Nat) (hj : j < k) : y.getD j 0 ≤ x.getD j 0 := by
  simp [ltUpto] at h
  have := h j hj
  simpa [List.getD_eq_getElem?_getD] using this

theorem ltUpto_self (x : List Int) (k : Nat) : ltUpto x x k = false := by simp [ltUpto]

theorem inv3_le : ∀ {a b : List Int}, a.length = b.length → (∀ j, j < a.length → a.getD j 0 ≤ b.getD j 0) → inv3 b ≤ inv3 a ∧ (inv3 a ≤ inv3 b → a = b)
  | [], [], _, _ => ⟨by simp [inv3], fun _ => rfl⟩
  | [], _ :: _, h, _ => by simp at h
  | _ :: _, [], h, _ => by simp at h
  | x :: xs, y :: ys, h, hle => by
    have h0 := hle 0 (by simp)
    have ih := inv3_le (a := xs) (b := ys) (by simpa using h) (fun j hj => by have := hle (j + 1) (by simp; omega); simpa using this)
    simp only [inv3, List.map_cons, List.sum_cons, List.getD_cons_zero] at *
    refine ⟨by omega, fun he => ?_⟩
    rw [ih.2 (by omega), show x = y by omega]

theorem quarter_le {x y : Int} (hq : x / 4 ≤ y / 4) (h : x % 4 ≤ y % 4) : x ≤ y := by omega
theorem quarter_64 (x : Int) : x / 64 / 4 = x / 256 := by omega
theorem quarter_16 (x : Int) : x / 16 / 4 = x / 64 := by omega
theorem quarter_4 (x : Int) : x / 4 / 4 = x / 16 := by omega
theorem quarter_top {x y : Int} (hx : 0 ≤ x ∧ x ≤ 1023) (hy : 0 ≤ y ∧ y ≤ 1023) (h : x / 256 % 4 ≤ y / 256 % 4) : x / 256 ≤ y / 256 := by
  have h1 : x / 256 % 4 = x / 256 := by omega
  have h2 : y / 256 % 4 = y / 256 := by omega
  rw [h1, h2] at h; exact h

theorem check_le (c d : Int) (hc : 0 ≤ c ∧ c ≤ 1023) (hd : 0 ≤ d ∧ d ≤ 1023) (h : ∀ j, j < 5 → (checkDigs c).getD j 0 ≤ (checkDigs d).getD j 0) : c ≤ d := by
  have h0 : c / 256 % 4 ≤ d / 256 % 4 := h 0 (by omega)
  have h1 : c / 64 % 4 ≤ d / 64 % 4 := h 1 (by omega)
  have h2 : c / 16 % 4 ≤ d / 16 % 4 := h 2 (by omega)
  have h3 : c / 4 % 4 ≤ d / 4 % 4 := h 3 (by omega)
  have h4 : c % 4 ≤ d % 4 := h 4 (by omega)
  have e0 := quarter_top hc hd h0
  have e1 := quarter_le (x := c / 64) (y := d / 64) (by rw [quarter_64, quarter_64]; exact e0) h1
  have e2 := quarter_le (x := c / 16) (y := d / 16) (by rw [quarter_16, quarter_16]; exact e1) h2
  have e3 := quarter_le (x := c / 4) (y := d / 4) (by rw [quarter_4, quarter_4]; exact e2) h3
  exact quarter_le e3 h4

theorem four_eq {x y : Int} (hx : 0 ≤ x ∧ x ≤ 255) (hy : 0 ≤ y ∧ y ≤ 255) (h1 : x / 64 % 4 = y / 64 % 4) (h2 : x / 16 % 4 = y / 16 % 4) (h3 : x / 4 % 4 = y / 4 % 4) (h4 : x % 4 = y % 4) : x = y := by
  have e1 : x / 64 = y / 64 := by
    have a1 : x / 64 % 4 = x / 64 := by omega
    have a2 : y / 64 % 4 = y / 64 := by omega
    rw [a1, a2] at h1; exact h1
  have e2 : x / 16 = y / 16 := by have := quarter_16 x; have := quarter_16 y; omega
  have e3 : x / 4 = y / 4 := by have := quarter_4 x; have := quarter_4 y; omega
  omega

theorem digs_inj : ∀ {a b : List Int}, IsB a → IsB b → digs a = digs b → a = b
  | [], [], _, _, _ => rfl
  | [], y :: ys, _, _, h => by simp [digs, dig4] at h
  | x :: xs, [], _, _, h => by simp [digs, dig4] at h
  | x :: xs, y :: ys, ha, hb, h => by
    have h1 : dig4 x ++ digs xs = dig4 y ++ digs ys := by simpa [digs] using h
    simp only [dig4, List.cons_append, List.nil_append, List.cons.injEq] at h1
    have hx := ha x (by simp)
    have hy := hb y (by simp)
    rw [digs_inj (fun z hz => ha z (by simp [hz])) (fun z hz => hb z (by simp [hz])) h1.2.2.2.2, four_eq hx hy h1.1 h1.2.1 h1.2.2.1 h1.2.2.2.1]

theorem digits_le {a b : List Int} (ha : IsB a) (hb : IsB b) (hl : a.length = b.length) (h32 : a.length ≤ 32) (h : ∀ j, j < 4 * a.length + 5 → (digitsOf a).getD j 0 ≤ (digitsOf b).getD j 0) : a = b := by
  unfold digitsOf at h
  rw [List.take_of_length_le h32, List.take_of_length_le (by omega)] at h
  have la := digs_len a
  have lb := digs_len b
  have h1 := inv3_le (a := digs a) (b := digs b) (by omega) (fun j hj => by
    have := h j (by omega)
    rwa [List.getD_eq_getElem?_getD, List.getD_eq_getElem?_getD, List.getElem?_append_left (by omega), List.getElem?_append_left (by omega), ← List.getD_eq_getElem?_getD, ← List.getD_eq_getElem?_getD] at this)
  have ba := inv3_bd (digs a) (fun d hd => digs_mem hd)
  have bb := inv3_bd (digs b) (fun d hd => digs_mem hd)
  have h2 := check_le (inv3 (digs a)) (inv3 (digs b)) (by omega) (by omega) (fun j hj => by
    have := h (4 * a.length + j) (by omega)
    rwa [List.getD_eq_getElem?_getD, List.getD_eq_getElem?_getD, List.getElem?_append_right (by omega), List.getElem?_append_right (by omega), la, lb, hl, Nat.add_sub_cancel_left, ← List.getD_eq_getElem?_getD, ← List.getD_eq_getElem?_getD] at this)
  exact digs_inj ha hb (h1.2 h2)

theorem digits_len (a : List Int) (h32 : a.length ≤ 32) : (digitsOf a).length = 4 * a.length + 5 := by
  unfold digitsOf
  rw [List.take_of_length_le h32, List.length_append, digs_len]
  rfl

theorem digits_lt {a b : List Int} (ha : IsB a) (hb : IsB b) (hl : a.length = b.length) (h32 : a.length ≤ 32) : ltUpto (digitsOf a) (digitsOf b) (4 * a.length + 5) = !decide (a = b) := by
  by_cases he : a = b
  · subst he; simp [ltUpto_self]
  · cases hlt : ltUpto (digitsOf a) (digitsOf b) (4 * a.length + 5) with
    | true => simp [he]
    | false => exact absurd (digits_le hb ha hl.symm (by omega) (fun j hj => ltUpto_false hlt j (by omega))).symm he

theorem digits_mem {a : List Int} (h32 : a.length ≤ 32) (j : Nat) : 0 ≤ (digitsOf a).getD j 0 ∧ (digitsOf a).getD j 0 ≤ 3 := by
  have key : ∀ d ∈ digitsOf a, 0 ≤ d ∧ d ≤ 3 := by
    intro d hd
    unfold digitsOf at hd
    rcases List.mem_append.1 hd with h | h
    · exact digs_mem h
    · simp [checkDigs] at h; omega
  rw [List.getD_eq_getElem?_getD]
  rcases Nat.lt_or_ge j (digitsOf a).length with hi | hi
  · rw [List.getElem?_eq_getElem hi]; exact key _ (List.getElem_mem hi)
  · rw [List.getElem?_eq_none hi]; simp

end Go.Proofs.YtjhannlioddkkaaGreatDoor

namespace Go.Proofs.YtjhannlioddkkaaGreatDoor
open Go.RowKit
set_option linter.unusedVariables false

theorem run_make_bytes (n : Nat) (hn : n ≤ 140737488355328) (w : World) :
    (Instr.makeSlice 22 (.int .i64 n) (.int .i64 n)).run Tryz.prog w = .ok (.slice (some ⟨w.heap.size, 0, none⟩) n n) (w.alloc (.cells (Array.replicate n (Value.int .u8 0)) 5)) := by
  have h := run_make_row' (P := Tryz.prog) 22 5 (.int .u8 0) 1 Tryz.underlying22 (by kernel_rfl) rfl .i64 .i64 n (by omega) (by omega) w
  rw [h]
  have e : madeCells #[.int .u8 0] n = Array.replicate n (Value.int .u8 0) := by
    apply Array.ext'
    rw [toList_madeCells_one]
    simp
  rw [e]

/-- The first n of some bytes, noughts behind them. -/
def padTo (n : Nat) (b : List Int) : List Int := b.take n ++ List.replicate (n - b.length) 0
theorem padTo_len (n : Nat) (b : List Int) : (padTo n b).length = n := by simp [padTo]; omega
theorem padTo_isB {b : List Int} (h : IsB b) (n : Nat) : IsB (padTo n b) := (h.take n).append (fun x hx => by rw [List.eq_of_mem_replicate hx]; omega)

theorem infoSize8 : (Tryz.prog.info? 5).map (·.size) = some 1 := by kernel_rfl

theorem Sl.ofBlk {w : World} {g : Nat} {t : TypeId} {xs : List Value} (h : Blk w g t xs.toArray) (n : Nat) (hn : n = xs.length) (hm : xs.length ≤ maxLen) : Sl w (.slice (some ⟨g, 0, none⟩) n n) xs := by
  subst hn
  refine ⟨_, xs.length, rfl, Nat.le_refl _, hm, fun hp => ⟨g, 0, rfl, h.lt, fun j u hu => ?_⟩⟩
  rw [h.cell]
  simpa using hu

theorem wpList_copy_pad {w : World} {ops : Array Oper} {rest : List Oper} {o : Oper} {a : Act} {Q : Exit → Act → World → Prop} (hgd : o.guard = none) (d s : Operand)
    (ho : o.op = .call { callee := .builtin .copy, args := #[d, s], argTypes := #[22, 22] })
    (g n cap : Nat) (hd : a.eval d = .slice (some ⟨g, 0, none⟩) n cap) (u : Value) (ys : List Int) (hs : a.eval s = u) (hsl : Sl w u (ys.map (Value.int .u8)))
    (hg0 : Blk w g 5 (Array.replicate n (Value.int .u8 0))) (B : Nat) (w0 : World) (hb : Below B w0 w) (hBg : B ≤ g)
    (h : ∀ w' (k : Int), Hid (Blk w' g 5 (((padTo n ys).map (Value.int .u8)).toArray)) → Below B w0 w' → wpList Tryz.prog ops Q rest (a.put o.dst (.int .i64 k)) w') : wpList Tryz.prog ops Q (o :: rest) a w := by
  have hg : Blk w g 5 (((List.replicate n (0 : Int)).map (Value.int .u8)).toArray) := by
    rw [List.map_replicate, List.toArray_replicate]; exact hg0
  obtain ⟨ua, uc, rfl, h1, h2, h3⟩ := hsl
  rw [List.length_map] at *
  refine wpList_copy_splice hgd d s _ _ ho 5 Tryz.underlying22 infoSize8 (some ⟨g, 0, none⟩) ua n cap ys.length uc hd hs g 0 ((List.replicate n (0 : Int)).map (Value.int .u8)) 5 hg ((ys.take n).map (Value.int .u8))
    (by rw [List.length_map, List.length_take]; exact Nat.min_comm _ _) (fun hp => ⟨rfl, ?_⟩) (by simp; omega) (one8 _) B w0 hb hBg (fun w' hw' hb' => ?_)
  · obtain ⟨b, off, rfl, hlt, hc⟩ := h3 (by simp at hp ⊢; omega)
    refine ⟨_, rfl, fun j v hv => ?_⟩
    rw [add_plain0]
    refine hc j v ?_
    rw [List.getElem?_map, List.getElem?_take] at hv
    rw [List.getElem?_map]
    split at hv
    · exact hv
    · cases hv
  · refine h w' _ ?_ hb'
    have e : splice ((List.replicate n (0 : Int)).map (Value.int .u8)) 0 ((ys.take n).map (Value.int .u8)) = (padTo n ys).map (Value.int .u8) := by
      unfold splice padTo
      rw [List.take_zero, List.nil_append, Nat.zero_add, ← List.map_drop, List.length_map, List.drop_replicate, ← List.map_append]
      congr 3
      simp
      omega
    show Blk w' g _ _
    rw [← e]
    exact hw'.out

end Go.Proofs.YtjhannlioddkkaaGreatDoor

namespace Go.Proofs.YtjhannlioddkkaaGreatDoor
open Go.RowKit
set_option linter.unusedVariables false

theorem results_cell_tmp2 {fn : Func} {p u v : Tmp} {ty : TypeId} (h : fn.results = #[.cell p ty, .tmp u, .tmp v]) (tmps : Array Value) (P : Program) (w : World) :
    (results fn tmps).run P w =
      ((asAddr (tmps.getD p undef)).run P w).andThen fun a w₁ => ((loadVar ty a).run P w₁).andThen fun x w₂ => .ok (.tuple #[x, tmps.getD u undef, tmps.getD v undef]) w₂ := by
  simp only [results, h]
  simp [Sem.run_bind, Result.andThen]

/-- The i-th piece of some bytes, z bytes each. -/
def chunkI (z : Nat) (r : List Int) (i : Nat) : List Int := (r.drop (z * i)).take z
def chunksI (z : Nat) (r : List Int) (a n : Nat) : List (List Int) := (List.range n).map fun i => chunkI z r (a + i)
theorem chunksI_succ (z : Nat) (r : List Int) (a n : Nat) : chunksI z r a (n + 1) = chunksI z r a n ++ [chunkI z r (a + n)] := by unfold chunksI; rw [List.range_succ, List.map_append]; rfl
theorem chunksI_len (z : Nat) (r : List Int) (a n : Nat) : (chunksI z r a n).length = n := by simp [chunksI]

/-- What the reader reads first: a number that has so many bits. -/
def mrU (h : Nat) (bs : List Int) : Int × List Int × Int := uI (2 ^ h - 1) bs 0
def mrNeed (size height : Int) : Nat := size.toNat * (4 * size.toNat + 5 + height.toNat)
def mrC (size height : Int) (bs : List Int) : Int :=
  if mcanB size height = false then 1 else if (mrU height.toNat bs).2.2 ≠ 0 then (mrU height.toNat bs).2.2 else if (mrU height.toNat bs).2.1.length < mrNeed size height then 3 else 0
def mrParts (size : Int) (r : List Int) : List (List Int) := chunksI size.toNat r 0 (4 * size.toNat + 5)
def mrPath (size height : Int) (r : List Int) : List (List Int) := chunksI size.toNat r (4 * size.toNat + 5) height.toNat

theorem set3_below {B : Nat} {W w : World} {g : Nat} (h : Below B W w) (hg : B ≤ g) (hB : B ≤ w.heap.size) (x0 x1 x2 : Value) : Below B W (((w.setCell ⟨g, 0, none⟩ x0).setCell ⟨g, 1, none⟩ x1).setCell ⟨g, 2, none⟩ x2) :=
  ((h.setCell (p := ⟨g, 0, none⟩) hg x0).setCell (p := ⟨g, 1, none⟩) hg x1).setCell (p := ⟨g, 2, none⟩) hg x2

/-- What Read answers. -/
def MrRes (w w' : World) (size height : Int) (bs : List Int) (x y : Value) : Prop :=
  (mrC size height bs = 0 → SigV w' x (mrU height.toNat bs).1 (mrParts size (mrU height.toNat bs).2.1) (mrPath size height (mrU height.toNat bs).2.1) ∧ Sl w' y (((mrU height.toNat bs).2.1.drop (mrNeed size height)).map (Value.int .u8))) ∧
  (¬ mrC size height bs = 0 → x = .agg #[.int .i64 0, .slice none 0 0, .slice none 0 0] ∧ y = .slice none 0 0) ∧ Below w.heap.size w w'

theorem MrRes.no {w w' : World} {size height : Int} {bs : List Int} (hb : Below w.heap.size w w') (hc : ¬ mrC size height bs = 0) : MrRes w w' size height bs (.agg #[.int .i64 0, .slice none 0 0, .slice none 0 0]) (.slice none 0 0) :=
  ⟨fun h => absurd h hc, fun _ => ⟨rfl, rfl⟩, hb⟩

/-- A row of texts keeps while another such row grows, in another block. -/
theorem OSls.keepV {w w' : World} {base b2 : Nat} {v v2 : Value} {pss pss2 : List (List Int)} (h : OSls w base v pss) (hO : OSls w b2 v2 pss2) (hne : ∀ g, v2.ownBlock = some g → v.ownBlock ≠ some g) (hg : w.grownBy w' v2.ownBlock) : OSls w' base v pss := by
  obtain ⟨us2, k2, _⟩ := hO
  cases hv : v2.ownBlock with
  | none =>
    rw [hv] at hg
    exact h.below ⟨hg.os, hg.tape, hg.output, hg.size, fun k hk => hg.block k hk (by simp)⟩
  | some g =>
    obtain ⟨cs, hc1, hc2⟩ := k2.2 g hv
    have hn := hne g hv
    rw [hv] at hg
    have kB : Blk w g 22 cs := hc1
    have hcs : ∀ (j : Nat) (n : Int), cs[j]? ≠ some (.int .u8 n) := fun j n hj => by
      have hm := Array.mem_of_getElem? hj
      exact hc2 _ (by simpa using hm) n rfl
    obtain ⟨us, k1, k3⟩ := h
    refine ⟨us, ⟨k1.1.kept hg (.inr hn), fun g' hg' => ?_⟩, ?_⟩
    · obtain ⟨cur, hd1, hd2⟩ := k1.2 g' hg'
      exact ⟨cur, (hg.block g' (k1.1.lt g' hg').2 (fun e => hn (by rw [hg', e]))).trans hd1, hd2⟩
    · have key : ∀ {us : List Value} {ps : List (List Int)}, SlAll w us ps → SlAll w' us ps := by
        intro us
        induction us with
        | nil => intro ps h; cases ps with
          | nil => trivial
          | cons _ _ => exact h.elim
        | cons u us ih => intro ps h; cases ps with
          | nil => exact h.elim
          | cons p ps => exact ⟨h.1.keepG kB hcs hg, ih h.2⟩
      exact key k3

theorem Sl.keepV {w w' : World} {b2 : Nat} {u v2 : Value} {zs : List Int} {pss2 : List (List Int)} (hs : Sl w u (zs.map (Value.int .u8))) (hO : OSls w b2 v2 pss2) (hg : w.grownBy w' v2.ownBlock) : Sl w' u (zs.map (Value.int .u8)) := by
  obtain ⟨us2, k2, _⟩ := hO
  cases hv : v2.ownBlock with
  | none =>
    rw [hv] at hg
    exact hs.below (B := w.heap.size) ⟨hg.os, hg.tape, hg.output, hg.size, fun k hk => hg.block k hk (by simp)⟩ (Nat.le_refl _)
  | some g =>
    obtain ⟨cs, hc1, hc2⟩ := k2.2 g hv
    rw [hv] at hg
    have kB : Blk w g 22 cs := hc1
    exact hs.keepG kB (fun j n hj => by
      have hm := Array.mem_of_getElem? hj
      exact hc2 _ (by simpa using hm) n rfl) hg

theorem sig_noB {idx : Int} {vp vq : Value} (h1 : isSl vp) (h2 : isSl vq) : ∀ (j : Nat) (n : Int), (#[.int .i64 idx, vp, vq] : Array Value)[j]? ≠ some (.int .u8 n) := by
  obtain ⟨_, _, _, rfl⟩ := h1
  obtain ⟨_, _, _, rfl⟩ := h2
  intro j n h
  match j, h with
  | 0, h => simp at h
  | 1, h => simp at h
  | 2, h => simp at h
  | j + 3, h => simp at h

/-- What stands while a signature is read. -/
structure MrS (w wr : World) (gs : Nat) (idx : Int) (vp vq : Value) (Bq : Nat) (P Q : List (List Int)) : Prop where
  kS : Blk wr gs 27 #[.int .i64 idx, vp, vq]
  kZ : Blk wr w.heap.size 27 #[.int .i64 0, .slice none 0 0, .slice none 0 0]
  hP : OSls wr w.heap.size vp P
  hQ : OSls wr Bq vq Q
  ne : ∀ g, vp.ownBlock = some g → g < Bq
  le : Bq ≤ wr.heap.size
  lo : w.heap.size ≤ Bq
  bel : Below w.heap.size w wr
  zs : w.heap.size < gs
theorem OSls.isSl {w : World} {base : Nat} {v : Value} {pss : List (List Int)} (h : OSls w base v pss) : isSl v := by obtain ⟨a, c, rfl⟩ := h.val; exact ⟨_, _, _, rfl⟩
theorem MrS.below {w wr w1 : World} {gs Bq : Nat} {idx : Int} {vp vq : Value} {P Q : List (List Int)} (h : MrS w wr gs idx vp vq Bq P Q) (hb : Below wr.heap.size wr w1) : MrS w w1 gs idx vp vq Bq P Q :=
  ⟨h.kS.belowS hb, h.kZ.belowS hb, h.hP.below hb, h.hQ.below hb, h.ne, Nat.le_trans h.le hb.size, h.lo, below_trans2 h.bel hb, h.zs⟩
theorem MrS.app1 {w wr w5 : World} {gs Bq : Nat} {idx : Int} {vp v5 : Value} {P P5 : List (List Int)} (h : MrS w wr gs idx vp (.slice none 0 0) Bq P []) (hO : OSls w5 w.heap.size v5 P5) (hg : wr.grownBy w5 vp.ownBlock) (hb : Below w.heap.size wr w5) :
    w5.frozen? ⟨gs, 1, none⟩ = false ∧ w5.cell? ⟨gs, 1, none⟩ = some vp ∧ MrS w (w5.setCell ⟨gs, 1, none⟩ v5) gs idx v5 (.slice none 0 0) w5.heap.size P5 [] ∧ ∀ (u : Value) (zs : List Int), Sl wr u (zs.map (Value.int .u8)) → Sl (w5.setCell ⟨gs, 1, none⟩ v5) u (zs.map (Value.int .u8)) := by
  have k5 := h.kS.keepO h.hP hg (by decide)
  have z5 := h.kZ.keepO h.hP hg (by decide)
  have hs : w5.grownBy (w5.setCell ⟨gs, 1, none⟩ v5) (some gs) := only_setCell (p := ⟨gs, 1, none⟩) (World.grownBy.refl _ _) (.inl rfl) _
  have hzs := h.zs
  refine ⟨k5.frozen 1, k5.cell 1, ⟨by have := k5.set_ 1 v5; simpa using this, z5.grown hs (by intro e; cases e; omega), hO.keepGk k5 (by decide) (sig_noB h.hP.isSl ⟨_, _, _, rfl⟩) hs, OSls.nil _ _, fun g hgv => ?_, by simp [World.setCell], (h.bel.trans hb).size, below_of_only (h.bel.trans hb) hs (by omega) (h.bel.trans hb).size, h.zs⟩, fun u zs hu => (hu.keepV h.hP hg).keepG k5 (sig_noB h.hP.isSl ⟨_, _, _, rfl⟩) hs⟩
  obtain ⟨us, k, _⟩ := hO
  exact (k.1.lt g hgv).2
theorem MrS.app2 {w wr w5 : World} {gs Bq : Nat} {idx : Int} {vp vq v5 : Value} {P Q Q5 : List (List Int)} (h : MrS w wr gs idx vp vq Bq P Q) (hO : OSls w5 Bq v5 Q5) (hg : wr.grownBy w5 vq.ownBlock) (hb0 : Below Bq wr w5) (hwB : w.heap.size ≤ Bq) :
    w5.frozen? ⟨gs, 2, none⟩ = false ∧ w5.cell? ⟨gs, 2, none⟩ = some vq ∧ MrS w (w5.setCell ⟨gs, 2, none⟩ v5) gs idx vp v5 Bq P Q5 ∧ ∀ (u : Value) (zs : List Int), Sl wr u (zs.map (Value.int .u8)) → Sl (w5.setCell ⟨gs, 2, none⟩ v5) u (zs.map (Value.int .u8)) := by
  have hb : Below w.heap.size wr w5 := hb0.mono hwB
  have k5 := h.kS.keepO h.hQ hg (by decide)
  have z5 := h.kZ.keepO h.hQ hg (by decide)
  have hs : w5.grownBy (w5.setCell ⟨gs, 2, none⟩ v5) (some gs) := only_setCell (p := ⟨gs, 2, none⟩) (World.grownBy.refl _ _) (.inl rfl) _
  have hzs := h.zs
  have hNB := sig_noB (idx := idx) h.hP.isSl h.hQ.isSl
  have hP5 := h.hP.keepV h.hQ (fun g hgq hgp => by
    obtain ⟨us, k, _⟩ := h.hQ
    have h1 := (k.1.lt g hgq).1
    have h2 := h.ne g hgp
    omega) hg
  exact ⟨k5.frozen 2, k5.cell 2, ⟨by have := k5.set_ 2 v5; simpa using this, z5.grown hs (by intro e; cases e; omega), hP5.keepGk k5 (by decide) hNB hs, hO.keepGk k5 (by decide) hNB hs, h.ne, by simp [World.setCell]; exact Nat.le_trans h.le hg.size, h.lo, below_of_only (h.bel.trans hb) hs (by omega) (h.bel.trans hb).size, h.zs⟩, fun u zs hu => (hu.keepV h.hQ hg).keepG k5 hNB hs⟩

end Go.Proofs.YtjhannlioddkkaaGreatDoor

namespace Go.Proofs.YtjhannlioddkkaaGreatDoor
open Go.RowKit
set_option linter.unusedVariables false

theorem dig_snoc0 (q : Nat) (x : Int) (hx : 0 ≤ x ∧ x ≤ 255) : dig ((q : Int) * 256 + x).toNat 0 = x := by
  unfold dig
  rw [Nat.pow_zero, Nat.div_one]; omega
theorem dig_snoc (q i : Nat) (x : Int) (hx : 0 ≤ x ∧ x ≤ 255) : dig ((q : Int) * 256 + x).toNat (i + 1) = dig q i := by
  unfold dig
  have e : ((q : Int) * 256 + x).toNat / 256 = q := by omega
  rw [Nat.pow_succ, Nat.mul_comm, ← Nat.div_div_eq_div_mul, e]

theorem beI_beN : ∀ (k : Nat) (L : List Int), L.length = k → IsB L → beI (beN L).toNat k k = L
  | 0, L, h, _ => by obtain rfl := List.length_eq_zero_iff.1 h; rfl
  | k + 1, L, h, hB => by
    have hl : L ≠ [] := by rintro rfl; simp at h
    obtain ⟨M, x, rfl⟩ : ∃ M x, L = M ++ [x] := ⟨L.dropLast, L.getLast hl, (List.dropLast_concat_getLast hl).symm⟩
    have hM : M.length = k := by simpa using h
    have hBM : IsB M := fun y hy => hB y (by simp [hy])
    have hx := hB x (by simp)
    obtain ⟨q, hq⟩ : ∃ q : Nat, beN M = q := ⟨(beN M).toNat, by have := (beN_pos M hBM).1; omega⟩
    have ih := beI_beN k M hM hBM
    rw [hq, Int.toNat_natCast] at ih
    rw [beN_snoc, hq]
    unfold beI at ih ⊢
    rw [List.range_succ, List.map_append, List.map_cons, List.map_nil]
    have e1 : k + 1 - 1 - k = 0 := by omega
    rw [e1, dig_snoc0 q x hx]
    congr 1
    have : ∀ t ∈ List.range k, dig ((q : Int) * 256 + x).toNat (k + 1 - 1 - t) = dig q (k - 1 - t) := fun t ht => by
      have ht : t < k := List.mem_range.1 ht
      rw [show k + 1 - 1 - t = (k - 1 - t) + 1 by omega, dig_snoc q _ x hx]
    rw [List.map_congr_left this, ih]

theorem beN_lead (L : List Int) (hB : IsB L) (hp : 0 < L.length) (h0 : ¬ L.getD 0 0 = 0) : (256 : Int) ^ (L.length - 1) ≤ beN L := by
  induction hn : L.length generalizing L with
  | zero => omega
  | succ n ih =>
    have hl : L ≠ [] := by rintro rfl; simp at hn
    obtain ⟨M, x, rfl⟩ : ∃ M x, L = M ++ [x] := ⟨L.dropLast, L.getLast hl, (List.dropLast_concat_getLast hl).symm⟩
    have hM : M.length = n := by simpa using hn
    have hBM : IsB M := fun y hy => hB y (by simp [hy])
    have hx := hB x (by simp)
    rw [beN_snoc]
    by_cases hn0 : n = 0
    · subst hn0
      obtain rfl := List.length_eq_zero_iff.1 hM
      simp at h0
      simp [beN]; omega
    · have := ih M hBM (by omega) (by
        rw [List.getD_eq_getElem?_getD, List.getElem?_append_left (by omega)] at h0
        rw [List.getD_eq_getElem?_getD]; exact h0) hM
      have e : (256 : Int) ^ (n + 1 - 1) = 256 ^ (n - 1) * 256 := by rw [← Int.pow_succ]; congr 1; omega
      rw [e]; omega

/-- A number that is read without an error is spelt as it would be written. -/
theorem uI_canon (most : Int) (bs : List Int) (hB : IsB bs) (h : (uI most bs 0).2.2 = 0) : bs = uintN (uI most bs 0).1.toNat ++ (uI most bs 0).2.1 := by
  cases bs with
  | nil => rw [uI_nil] at h; simp at h
  | cons hd r =>
    have hh := hB hd (by simp)
    by_cases h8 : 8 < hd
    · rw [uI_wide most hd r h8] at h; simp at h
    · by_cases hs : r.length < hd.toNat
      · rw [uI_short most hd r h8 hs] at h; simp at h
      · by_cases hf : (0 < hd.toNat ∧ r.getD 0 0 = 0) ∨ 4611686018427387904 < beN (r.take hd.toNat)
        · rw [uI_form most hd r h8 hs hf] at h; simp at h
        · by_cases hm : most < beN (r.take hd.toNat)
          · rw [uI_full most hd r h8 hs hf hm] at h; simp at h
          · rw [uI_ok most hd r h8 hs hf hm]
            simp only
            obtain ⟨k, rfl⟩ : ∃ k : Nat, hd = k := ⟨hd.toNat, by omega⟩
            rw [Int.toNat_natCast] at *
            have hL : (r.take k).length = k := by rw [List.length_take]; omega
            have hBL : IsB (r.take k) := fun x hx => hB x (by simp [List.mem_of_mem_take hx])
            have hp := beN_pos (r.take k) hBL
            obtain ⟨m, hm2⟩ : ∃ m : Nat, beN (r.take k) = m := ⟨(beN (r.take k)).toNat, by omega⟩
            have hlt : m < 256 ^ k := by
              have := hp.2
              rw [hm2, hL] at this
              have e : ((256 : Int) ^ k) = ((256 ^ k : Nat) : Int) := by simp
              rw [e] at this
              omega
            have hle : m ≤ 4611686018427387904 := by
              have : ¬ 4611686018427387904 < beN (r.take k) := fun q => hf (.inr q)
              omega
            have hw : width m = k := width_of k m hlt (by
              by_cases hk0 : k = 0
              · exact .inl hk0
              · right
                have h0 : ¬ (r.take k).getD 0 0 = 0 := fun q => hf (.inl ⟨by omega, by
                  rw [List.getD_eq_getElem?_getD, List.getElem?_take, if_pos (by omega), ← List.getD_eq_getElem?_getD] at q
                  exact q⟩)
                have := beN_lead (r.take k) hBL (by omega) h0
                rw [hm2, hL] at this
                have e : ((256 : Int) ^ (k - 1)) = ((256 ^ (k - 1) : Nat) : Int) := by simp
                rw [e] at this
                omega) (Nat.lt_of_le_of_lt hle (by decide))
            have hbe := beI_beN k (r.take k) hL hBL
            rw [hm2, Int.toNat_natCast] at hbe
            rw [hm2, Int.toNat_natCast]
            unfold uintN
            rw [hw, hbe, List.cons_append, List.take_append_drop]

theorem bI_canon (most : Int) (bs : List Int) (hB : IsB bs) (h : (bI most bs 0).2.2 = 0) : bs = bytesI (bI most bs 0).1 ++ (bI most bs 0).2.1 := by
  by_cases hu : (uI most bs 0).2.2 = 0
  · by_cases hl : (uI most bs 0).2.1.length < (uI most bs 0).1.toNat
    · rw [bI_short most bs 0 hu hl] at h; simp at h
    · rw [bI_ok most bs 0 hu hl]
      have hc := uI_canon most bs hB hu
      simp only
      unfold bytesI
      have e : ((uI most bs 0).2.1.take (uI most bs 0).1.toNat).length = (uI most bs 0).1.toNat := by rw [List.length_take]; omega
      rw [e, List.append_assoc, List.take_append_drop]
      exact hc
  · rw [bI_err most bs 0 hu] at h; exact absurd h hu

theorem uI_sticks (most : Int) (bs : List Int) (e : Int) (h : (uI most bs e).2.2 = 0) : e = 0 := by
  by_cases he : e = 0
  · exact he
  · rw [uI_err most bs e he] at h; exact h
theorem bI_sticks (most : Int) (bs : List Int) (e : Int) (h : (bI most bs e).2.2 = 0) : e = 0 := by
  by_cases hu : (uI most bs e).2.2 = 0
  · exact uI_sticks most bs e hu
  · rw [bI_err most bs e hu] at h; exact absurd h hu

theorem lk_canon (m : Int) (bs : List Int) (e : Int) (hB : IsB bs) : ∀ k, (lkN m k ([], bs, e)).2.2 = 0 → e = 0 ∧ bs = (lkN m k ([], bs, e)).1.flatMap bytesI ++ (lkN m k ([], bs, e)).2.1
  | 0, h => ⟨h, by simp [lkN]⟩
  | k + 1, h => by
    have h' : (bI m (lkN m k ([], bs, e)).2.1 (lkN m k ([], bs, e)).2.2).2.2 = 0 := h
    have hk := bI_sticks _ _ _ h'
    obtain ⟨he, ih⟩ := lk_canon m bs e hB k hk
    refine ⟨he, ?_⟩
    rw [hk] at h'
    have hc := bI_canon m _ (lkN_isB m k ([], bs, e) (by intro p hp; cases hp) hB).2 h'
    show bs = ((lkN m k ([], bs, e)).1 ++ [(bI m (lkN m k ([], bs, e)).2.1 (lkN m k ([], bs, e)).2.2).1]).flatMap bytesI ++ (bI m (lkN m k ([], bs, e)).2.1 (lkN m k ([], bs, e)).2.2).2.1
    rw [hk, List.flatMap_append, List.flatMap_cons, List.flatMap_nil, List.append_nil, List.append_assoc, ← hc]
    exact ih

/-- Bytes that are read whole are those of what was read. -/
theorem dec_canon (m : Int) (b : List Int) (hB : IsB b) (h : (d6 m b).2.2 = 0) (hr : (d6 m b).2.1 = []) : b = encI (d1 b).1 (d2 b).1 (d3 m b).1 (d4 m b).1 (d5 m b).1 (d6 m b).1 := by
  obtain ⟨l1, l2, l3, l4, l5, _⟩ := d_left m b
  obtain ⟨h5, c6⟩ := lk_canon m (d5 m b).2.1 (d5 m b).2.2 (suf_isB l5 hB) (linksI (d1 b).1) h
  have c6 : (d5 m b).2.1 = (d6 m b).1.flatMap bytesI ++ (d6 m b).2.1 := c6
  rw [hr, List.append_nil] at c6
  have h4 : (d4 m b).2.2 = 0 := bI_sticks _ _ _ h5
  have h3 : (d3 m b).2.2 = 0 := uI_sticks _ _ _ h4
  have h2 : (d2 b).2.2 = 0 := bI_sticks _ _ _ h3
  have h1 : (d1 b).2.2 = 0 := uI_sticks _ _ _ h2
  have c5 : (d4 m b).2.1 = bytesI (d5 m b).1 ++ (d5 m b).2.1 := by
    have e : d5 m b = bI m (d4 m b).2.1 0 := by unfold d5; rw [h4]
    rw [e]; exact bI_canon m _ (suf_isB l4 hB) (by rw [← e]; exact h5)
  have c4 : (d3 m b).2.1 = uintN (d4 m b).1.toNat ++ (d4 m b).2.1 := by
    have e : d4 m b = uI 32 (d3 m b).2.1 0 := by unfold d4; rw [h3]
    rw [e]; exact uI_canon 32 _ (suf_isB l3 hB) (by rw [← e]; exact h4)
  have c3 : (d2 b).2.1 = bytesI (d3 m b).1 ++ (d3 m b).2.1 := by
    have e : d3 m b = bI m (d2 b).2.1 0 := by unfold d3; rw [h2]
    rw [e]; exact bI_canon m _ (suf_isB l2 hB) (by rw [← e]; exact h3)
  have c2 : (d1 b).2.1 = uintN (d2 b).1.toNat ++ (d2 b).2.1 := by
    have e : d2 b = uI 1125899906842624 (d1 b).2.1 0 := by unfold d2; rw [h1]
    rw [e]; exact uI_canon 1125899906842624 _ (suf_isB l1 hB) (by rw [← e]; exact h2)
  have c1 : b = uintN (d1 b).1.toNat ++ (d1 b).2.1 := uI_canon 255 b hB h1
  unfold encI
  rw [← c6, ← c5, ← c4, ← c3, ← c2, ← c1]

/-- What the reference takes for a record is what the program takes for one, and reads the same. -/
def refOk (size : Int) (b : List Int) : Prop := (d6 32 b).2.2 = 0 ∧ (d6 32 b).2.1 = [] ∧ canI size (d1 b).1 (d2 b).1 (d3 32 b).1 (d4 32 b).1 (d5 32 b).1 (d6 32 b).1
instance (size : Int) (b : List Int) : Decidable (refOk size b) := by unfold refOk; infer_instance
theorem ok_ref (size : Int) (b : List Int) (h : decOk size b) : refOk size b ∧ (d3 32 b).1 = (d3 size b).1 ∧ (d4 32 b).1 = (d4 size b).1 ∧ (d5 32 b).1 = (d5 size b).1 ∧ (d6 32 b).1 = (d6 size b).1 := by
  obtain ⟨h1, h2, h3, h4⟩ := h
  have k := dec_enc 32 (by have := h3.1; omega) h3
  rw [h4] at k
  obtain ⟨k1, k2, k3, k4, k5, k6⟩ := k
  refine ⟨⟨by rw [k6], by rw [k6], ?_⟩, k3, k4, k5, by rw [k6]⟩
  rw [k3, k4, k5, k6]
  exact h3
theorem ref_ok (size : Int) (b : List Int) (hB : IsB b) (h : refOk size b) : decOk size b := by
  obtain ⟨h1, h2, h3⟩ := h
  have hc := dec_canon 32 b hB h1 h2
  have k := dec_enc size (Int.le_refl _) h3
  rw [← hc] at k
  obtain ⟨k1, k2, k3, k4, k5, k6⟩ := k
  refine ⟨by rw [k6], by rw [k6], ?_, ?_⟩
  · rw [k3, k4, k5, k6]; exact h3
  · rw [k3, k4, k5, k6]; exact hc.symm

end Go.Proofs.YtjhannlioddkkaaGreatDoor

namespace Go.Proofs.YtjhannlioddkkaaGreatDoor
open Go.RowKit
set_option linter.unusedVariables false

/-- A number that is too great is told. -/
theorem uintN_over (m : Nat) (hm : m ≤ 4611686018427387904) (most : Int) (h : most < (m : Int)) (rest : List Int) : (uI most (uintN m ++ rest) 0).2.2 = 4 := by
  have h0 := uintN_read m hm (m : Int) (Int.le_refl _) rest
  have e0 : uintN m ++ rest = (width m : Int) :: (beI m (width m) (width m) ++ rest) := rfl
  obtain ⟨h8, hlt, hge⟩ := width_spec m hm
  have hL : (beI m (width m) (width m)).length = width m := beI_len _ _ _
  have ht : (beI m (width m) (width m) ++ rest).take (width m : Int).toNat = beI m (width m) (width m) := by
    rw [Int.toNat_natCast]; exact List.take_left' hL
  have hb : beN (beI m (width m) (width m)) = m := by
    rw [beN_beI m _ hlt _ (Nat.le_refl _), Nat.sub_self]; simp
  have hf : ¬ ((0 < (width m : Int).toNat ∧ (beI m (width m) (width m) ++ rest).getD 0 0 = 0) ∨ 4611686018427387904 < beN ((beI m (width m) (width m) ++ rest).take (width m : Int).toNat)) := by
    intro hf
    rw [e0] at h0
    have h1 := uI_form (m : Int) (width m : Int) (beI m (width m) (width m) ++ rest) (by omega) (by rw [Int.toNat_natCast, List.length_append, hL]; omega) hf
    rw [h1] at h0
    have h2 := congrArg (fun x => x.2.2) h0
    simp at h2
  rw [e0, uI_full most _ _ (by omega) (by rw [Int.toNat_natCast, List.length_append, hL]; omega) hf (by rw [ht, hb]; exact h)]

theorem chunksI_flat (z : Nat) (r : List Int) : ∀ n, z * n ≤ r.length → (chunksI z r 0 n).flatten = r.take (z * n)
  | 0, _ => by simp [chunksI]
  | n + 1, h => by
    have h' : z * n ≤ r.length := Nat.le_trans (Nat.mul_le_mul (Nat.le_refl z) (Nat.le_succ n)) h
    rw [chunksI_succ, Nat.zero_add, List.flatten_append, chunksI_flat z r n h', List.flatten_cons, List.flatten_nil, List.append_nil]
    unfold chunkI
    rw [Nat.mul_succ, List.take_add]

theorem flat_chunks (z : Nat) : ∀ (ps : List (List Int)) (more : List Int), (∀ p ∈ ps, p.length = z) → chunksI z (ps.flatten ++ more) 0 ps.length = ps
  | [], _, _ => rfl
  | p :: ps, more, h => by
    have hp := h p (by simp)
    unfold chunksI
    rw [List.length_cons, List.range_succ_eq_map, List.map_cons, List.map_map]
    have h0 : chunkI z ((p :: ps).flatten ++ more) (0 + 0) = p := by
      unfold chunkI
      rw [List.flatten_cons, List.append_assoc]
      simp only [Nat.add_zero, Nat.mul_zero, List.drop_zero]
      exact List.take_left' hp
    rw [h0]
    congr 1
    have ih := flat_chunks z ps more (fun q hq => h q (by simp [hq]))
    refine Eq.trans ?_ ih
    unfold chunksI
    refine List.map_congr_left fun i _ => ?_
    show chunkI z ((p :: ps).flatten ++ more) (0 + (i + 1)) = chunkI z (ps.flatten ++ more) (0 + i)
    unfold chunkI
    rw [List.flatten_cons, List.append_assoc, show z * (0 + (i + 1)) = p.length + z * (0 + i) by rw [hp, Nat.zero_add, Nat.zero_add, Nat.mul_succ]; omega, List.drop_append]
    simp [List.drop_eq_nil_of_le]

/-- A signature's bytes, read back. -/
theorem mr_back {size idx : Int} {parts path : List (List Int)} (hs : 1 ≤ size ∧ size ≤ 32) (h : wholeI size idx parts path) :
    (¬ idx ≤ 2 ^ path.length - 1 → ¬ mrC size path.length (uintN idx.toNat ++ (parts.flatten ++ path.flatten)) = 0) ∧
    (idx ≤ 2 ^ path.length - 1 → mrC size path.length (uintN idx.toNat ++ (parts.flatten ++ path.flatten)) = 0 ∧ (mrU path.length (uintN idx.toNat ++ (parts.flatten ++ path.flatten))).1 = idx ∧
      mrParts size (mrU path.length (uintN idx.toNat ++ (parts.flatten ++ path.flatten))).2.1 = parts ∧ mrPath size path.length (mrU path.length (uintN idx.toNat ++ (parts.flatten ++ path.flatten))).2.1 = path ∧
      ((mrU path.length (uintN idx.toNat ++ (parts.flatten ++ path.flatten))).2.1.drop (mrNeed size path.length)) = []) := by
  obtain ⟨⟨hi0, hi1⟩, hpl, hql, hp, hq⟩ := h
  obtain ⟨z, rfl⟩ : ∃ z : Nat, size = z := ⟨size.toNat, by omega⟩
  obtain ⟨i, rfl⟩ : ∃ i : Nat, idx = i := ⟨idx.toNat, by omega⟩
  have hpl' : parts.length = 4 * z + 5 := by rw [four_size hs] at hpl; omega
  have hp' : ∀ p ∈ parts, p.length = z := fun p h => by have := hp p h; omega
  have hq' : ∀ p ∈ path, p.length = z := fun p h => by have := hq p h; omega
  have hcan : mcanB (z : Int) (path.length : Int) = true := by unfold mcanB; exact decide_eq_true ⟨by omega, by omega, by omega, by omega⟩
  have hU : mrU path.length (uintN i ++ (parts.flatten ++ path.flatten)) = uI (2 ^ path.length - 1) (uintN i ++ (parts.flatten ++ path.flatten)) 0 := rfl
  have hC : mrC z path.length (uintN i ++ (parts.flatten ++ path.flatten)) = if (mrU path.length (uintN i ++ (parts.flatten ++ path.flatten))).2.2 ≠ 0 then (mrU path.length (uintN i ++ (parts.flatten ++ path.flatten))).2.2 else if (mrU path.length (uintN i ++ (parts.flatten ++ path.flatten))).2.1.length < mrNeed z path.length then 3 else 0 := by
    unfold mrC; rw [if_neg (by simp [hcan])]; simp
  rw [Int.toNat_natCast, hC]
  have hfl : (parts.flatten ++ path.flatten).length = mrNeed z path.length := by
    rw [List.length_append, flat_size z parts hp', flat_size z path hq', hpl', ← Nat.add_mul]
    unfold mrNeed
    rw [Int.toNat_natCast, Int.toNat_natCast, Nat.mul_comm]
  refine ⟨fun hn => ?_, fun hn => ?_⟩
  · have h4 : (mrU path.length (uintN i ++ (parts.flatten ++ path.flatten))).2.2 = 4 := by rw [hU]; exact uintN_over i (by omega) _ (by omega) _
    rw [h4, if_pos (by decide)]
    decide
  · have hr : mrU path.length (uintN i ++ (parts.flatten ++ path.flatten)) = ((i : Int), parts.flatten ++ path.flatten, 0) := by rw [hU]; exact uintN_read i (by omega) _ hn _
    rw [hr]
    refine ⟨by rw [if_neg (by simp), if_neg (by rw [hfl]; exact Nat.lt_irrefl _)], rfl, ?_, ?_, ?_⟩
    · unfold mrParts
      rw [Int.toNat_natCast, ← hpl']
      exact flat_chunks z parts _ hp'
    · unfold mrPath
      rw [Int.toNat_natCast, Int.toNat_natCast]
      have h2 := flat_chunks z path [] hq'
      rw [List.append_nil] at h2
      refine Eq.trans ?_ h2
      unfold chunksI
      refine List.map_congr_left fun j _ => ?_
      show chunkI z (parts.flatten ++ path.flatten) (4 * z + 5 + j) = chunkI z path.flatten (0 + j)
      unfold chunkI
      rw [Nat.mul_add z (4 * z + 5), ← List.drop_drop, Nat.zero_add]
      congr 2
      exact List.drop_left' (by rw [flat_size z parts hp', hpl', Nat.mul_comm])
    · exact List.drop_eq_nil_of_le (by rw [hfl]; exact Nat.le_refl _)

/-- Bytes that are a signature, with what is behind it. -/
theorem mr_canon {size height : Int} {bs : List Int} (hB : IsB bs) (h : mrC size height bs = 0) :
    bs = sigTo [] (mrU height.toNat bs).1 (mrParts size (mrU height.toNat bs).2.1) (mrPath size height (mrU height.toNat bs).2.1) 2 ++ (mrU height.toNat bs).2.1.drop (mrNeed size height) := by
  unfold mrC at h
  split at h
  · cases h
  · rename_i hcan
    split at h
    · rename_i he; exact absurd h he
    · rename_i he
      split at h
      · cases h
      · rename_i hl
        have he' : (mrU height.toNat bs).2.2 = 0 := by simpa using he
        have hc := uI_canon (2 ^ height.toNat - 1) bs hB he'
        have hc : bs = uintN (mrU height.toNat bs).1.toNat ++ (mrU height.toNat bs).2.1 := hc
        generalize hU : mrU height.toNat bs = U at *
        obtain ⟨idx, r, e⟩ := U
        simp only at hc hl ⊢
        have hN : mrNeed size height = size.toNat * (4 * size.toNat + 5) + size.toNat * height.toNat := by unfold mrNeed; rw [Nat.mul_add]
        have hl1 : size.toNat * (4 * size.toNat + 5) ≤ r.length := by omega
        unfold sigTo mrParts mrPath
        rw [List.nil_append, chunksI_flat _ r _ hl1]
        have e2 : (chunksI size.toNat r (4 * size.toNat + 5) height.toNat).flatten = (r.drop (size.toNat * (4 * size.toNat + 5))).take (size.toNat * height.toNat) := by
          rw [← chunksI_flat size.toNat (r.drop (size.toNat * (4 * size.toNat + 5))) height.toNat (by rw [List.length_drop]; omega)]
          congr 1
          unfold chunksI
          refine List.map_congr_left fun j _ => ?_
          unfold chunkI
          rw [List.drop_drop, Nat.mul_add, Nat.zero_add]
        rw [e2, hN]
        generalize size.toNat * (4 * size.toNat + 5) = A at *
        generalize size.toNat * height.toNat = D at *
        show bs = ((uintN idx.toNat ++ List.take A r) ++ List.take D (List.drop A r)) ++ List.drop (A + D) r
        rw [List.append_assoc, List.append_assoc]
        conv => lhs; rw [hc]
        congr 1
        rw [← List.drop_drop, List.take_append_drop, List.take_append_drop]

/-- A piece of bytes is bytes. -/
theorem chunksI_isB {z a n : Nat} {r : List Int} (h : IsB r) : ∀ p ∈ chunksI z r a n, IsB p := by
  intro p hp
  unfold chunksI at hp
  obtain ⟨i, _, rfl⟩ := List.mem_map.1 hp
  unfold chunkI
  exact (h.drop _).take _

end Go.Proofs.YtjhannlioddkkaaGreatDoor

namespace Go.Proofs.YtjhannlioddkkaaGreatDoor
open Go.RowKit
set_option linter.unusedVariables false

theorem Sl.dropA {w : World} {ad : Option Addr} {cap n m : Nat} {xs : List Value} (h : Sl w (.slice ad m cap) xs) (hn : n ≤ xs.length) :
    Sl w (.slice (if cap = n then ad else ad.map fun x => x.add n) (m - n) (cap - n)) (xs.drop n) := by
  obtain ⟨a', cap', h0, h1, h2, h3⟩ := h
  cases h0
  have hl : (xs.drop n).length = xs.length - n := by simp
  refine ⟨_, cap - n, by rw [hl], by omega, by omega, fun hp => ?_⟩
  obtain ⟨b, off, rfl, hlt, hc⟩ := h3 (by omega)
  refine ⟨b, off + n, by rw [if_neg (by omega), Option.map_some, add_plain0], hlt, fun j u hu => ?_⟩
  rw [List.getElem?_drop] at hu
  have := hc _ u hu
  rwa [← Nat.add_assoc] at this
theorem clone_rest {w : World} {ra : Option Addr} {rc T : Nat} {rest : List Int} (h : Sl w (.slice ra rest.length rc) (rest.map (Value.int .u8))) (hT : T ≤ rest.length) (hl : rest.length ≤ 140737488351232) (w' : World) (hb : Below w.heap.size w w') :
    Calls Tryz.prog 41 #[.slice (if rc = T then ra else Option.map (fun x => x.add T) ra) (rest.length - T) (rc - T)] w' fun e w'' => ∃ v', e = .returned v' ∧ Sl w'' v' ((rest.drop T).map (Value.int .u8)) ∧ Below w'.heap.size w' w'' := by
  have hd := h.dropA (n := T) (by rw [List.length_map]; exact hT)
  rw [← List.map_drop] at hd
  exact (sclone_own _ _ w' (by rw [List.length_drop]; omega) (hd.below hb (Nat.le_refl _))).mono fun e w'' ⟨v', he, ho, hb⟩ => ⟨v', he, Sl.of_owns ho, hb⟩
theorem wrap_of {x y : Int} (h : wrap64 x = y) : IntKind.i64.wrap x = y := by rw [← h, IntKind.wrap_i64]; unfold wrap64; omega
theorem threeSet {w : World} {g : Nat} (x0 x1 x2 : Value) : w.grownBy (((w.setCell ⟨g, 0, none⟩ x0).setCell ⟨g, 1, none⟩ x1).setCell ⟨g, 2, none⟩ x2) (some g) :=
  only_setCell (p := ⟨g, 2, none⟩) (only_setCell (p := ⟨g, 1, none⟩) (only_setCell (p := ⟨g, 0, none⟩) (World.grownBy.refl _ _) (.inl rfl) _) (.inl rfl) _) (.inl rfl) _
/-- The signature that was read is handed on. -/
theorem MrS.stored {w wr w9 : World} {gs Bq : Nat} {idx : Int} {vp vq y : Value} {P Q : List (List Int)} {R : List Int} (h : MrS w wr gs idx vp vq Bq P Q) (hb : Below wr.heap.size wr w9) (hy : Sl w9 y (R.map (Value.int .u8))) (x0 x1 x2 : Value) :
    (SigV (((w9.setCell ⟨w.heap.size, 0, none⟩ x0).setCell ⟨w.heap.size, 1, none⟩ x1).setCell ⟨w.heap.size, 2, none⟩ x2) (.agg #[.int .i64 idx, vp, vq]) idx P Q ∧ Sl (((w9.setCell ⟨w.heap.size, 0, none⟩ x0).setCell ⟨w.heap.size, 1, none⟩ x1).setCell ⟨w.heap.size, 2, none⟩ x2) y (R.map (Value.int .u8))) ∧ Below w.heap.size w (((w9.setCell ⟨w.heap.size, 0, none⟩ x0).setCell ⟨w.heap.size, 1, none⟩ x1).setCell ⟨w.heap.size, 2, none⟩ x2) := by
  have hg := threeSet (w := w9) (g := w.heap.size) x0 x1 x2
  have kZ := h.kZ.belowS hb
  have hNB := sig_noB (idx := 0) (vp := .slice none 0 0) (vq := .slice none 0 0) ⟨_, _, _, rfl⟩ ⟨_, _, _, rfl⟩
  exact ⟨⟨⟨vp, vq, rfl, ((h.hP.below hb).keepGk kZ (by decide) hNB hg).sls, ((h.hQ.below hb).keepGk kZ (by decide) hNB hg).sls⟩, hy.keepG kZ hNB hg⟩, below_of_only (below_trans2 h.bel hb) hg (Nat.le_refl _) (below_trans2 h.bel hb).size⟩
theorem next_at {k M : Nat} (hk : k < M) (hM : M ≤ 141) : wrap64 ((k : Int) + 1) = ((k + 1 : Nat) : Int) := by unfold wrap64; omega
theorem piece_at {z k M T : Nat} (hk : k < M) (hT : T = z * M) (hT1 : T ≤ 4512) : ∃ q r : Nat, q = z * k ∧ r = q + z ∧ r ≤ T ∧ q ≤ r ∧ wrap64 ((z : Int) * (k : Int)) = (q : Int) ∧ wrap64 ((q : Int) + (z : Int)) = (r : Int) := by
  have h1 : z * k + z ≤ T := by rw [hT]; exact Nat.mul_le_mul (Nat.le_refl z) hk
  have e1 : ((z : Int) * (k : Int)) = ((z * k : Nat) : Int) := by simp
  rw [e1]
  generalize z * k = q at *
  clear e1 hT hk
  exact ⟨q, q + z, rfl, rfl, h1, by omega, by unfold wrap64; omega, by unfold wrap64; omega⟩
theorem chunk_piece {z k q r : Nat} (rest : List Int) (hq : q = z * k) (hr : r = q + z) (h : r ≤ rest.length) : (rest.drop q).take (r - q) = chunkI z rest k ∧ (chunkI z rest k).length = r - q := by
  have e : (rest.drop q).take (r - q) = chunkI z rest k := by unfold chunkI; rw [hr, Nat.add_sub_cancel_left, hq]
  refine ⟨e, ?_⟩
  rw [← e, List.length_take, List.length_drop]; clear e hq; omega

set_option maxRecDepth 100000 in
set_option maxHeartbeats 4000000 in
theorem mread_any (size height : Int) (v : Value) (bs : List Int) (w : World) (hz0 : -9223372036854775808 ≤ size) (hz1 : size ≤ 9223372036854775807) (hh0 : -9223372036854775808 ≤ height) (hh1 : height ≤ 9223372036854775807) (hl : bs.length ≤ 140737488351232) (hB : IsB bs) (hs : Sl w v (bs.map (Value.int .u8))) :
    Calls Tryz.prog 27 #[.int .i64 size, .int .i64 height, v] w fun e w' => ∃ x y, e = .returned (.tuple #[x, y, .int .i64 (mrC size height bs)]) ∧ MrRes w w' size height bs x y := by
  obtain ⟨va, vc, rfl, hc, hm⟩ := hs.shape
  rw [List.length_map] at *
  have hb1 : Below w.heap.size w (w.alloc (.cells #[.int .i64 0, .slice none 0 0, .slice none 0 0] 27)) := (Below.refl _ _).alloc (Nat.le_refl _) _
  have kZ := Blk.new w 27 #[.int .i64 0, .slice none 0 0, .slice none 0 0]
  have hs1 := hs.below hb1 (Nat.le_refl _)
  have hsz1 : (w.alloc (.cells #[.int .i64 0, .slice none 0 0, .slice none 0 0] 27)).heap.size = w.heap.size + 1 := by simp
  have HLL := Lib.hid hl
  have HB := Lib.hid hB
  have HSS := Lib.hid hs
  clear hs hl hB
  by_cases hcan : mcanB size height = true
  rotate_left
  · have hcan : mcanB size height = false := by simpa using hcan
    have HC := Lib.hid (mcan_any size height (w.alloc (.cells #[.int .i64 0, .slice none 0 0, .slice none 0 0] 27)))
    rw [hcan] at HC
    have hC1 : mrC size height bs = 1 := by unfold mrC; rw [if_pos hcan]
    have HC1 := Lib.hid hC1
    have HB1 := Lib.hid hb1
    obtain ⟨z0, z1, z2⟩ := rec3 kZ
    have f0 := kZ.frozen 0
    have f1 := kZ.frozen 1
    have f2 := kZ.frozen 2
    clear hC1 hcan hs1 hb1
    go_enter Tryz.func27, Tryz.ntmps27
    go_wp2_with fail
    generalize (w.alloc (.cells #[.int .i64 0, .slice none 0 0, .slice none 0 0] 27)) = w1 at *
    refine HC.out.mono ?_
    rintro e w2 ⟨rfl, rfl⟩
    go_wp2
    exact bodyPost_ret (by rw [results_cell_tmp2 rfl]; go_simp; exact rfl) rfl ⟨_, _, by rw [HC1.out], MrRes.no (set3_below HB1.out (Nat.le_refl _) (by omega) _ _ _) (by rw [HC1.out]; decide)⟩
  have hcan' : 1 ≤ size ∧ size ≤ 32 ∧ 0 ≤ height ∧ height ≤ 8 := by unfold mcanB at hcan; exact of_decide_eq_true hcan
  obtain ⟨z, rfl⟩ : ∃ z : Nat, size = z := ⟨size.toNat, by omega⟩
  obtain ⟨H, rfl⟩ : ∃ H : Nat, height = H := ⟨height.toNat, by omega⟩
  have hz : 1 ≤ z ∧ z ≤ 32 := by omega
  have hH : H ≤ 8 := by omega
  obtain ⟨P, hP⟩ : ∃ P : Nat, P = 2 ^ H := ⟨_, rfl⟩
  have hP1 : 1 ≤ P ∧ P ≤ 256 := by rw [hP]; exact ⟨Nat.one_le_two_pow, Nat.pow_le_pow_right (by omega) hH⟩
  have hPI : ((2 : Int) ^ H) = (P : Int) := by rw [show ((2 : Int) ^ H) = ((2 ^ H : Nat) : Int) by simp, ← hP]
  have hW : wrap64 ((2 : Int) ^ H) = (P : Int) := by rw [hPI]; unfold wrap64; omega
  have hW2 : wrap64 ((P : Int) - 1) = (P : Int) - 1 := by unfold wrap64; omega
  have hMU : mrU H bs = uI ((P : Int) - 1) bs 0 := by unfold mrU; rw [hPI]
  have HC := Lib.hid (mcan_any z H (w.alloc (.cells #[.int .i64 0, .slice none 0 0, .slice none 0 0] 27)))
  rw [hcan] at HC
  have hC1 : mrC z H bs = if (mrU H bs).2.2 ≠ 0 then (mrU H bs).2.2 else if (mrU H bs).2.1.length < z * (4 * z + 5 + H) then 3 else 0 := by unfold mrC mrNeed; rw [if_neg (by simp [hcan])]; simp
  have HPO : Hid (∀ (w' : World) (x y : Value), ((mrC z H bs = 0 → SigV w' x (mrU H bs).1 (chunksI z (mrU H bs).2.1 0 (4 * z + 5)) (chunksI z (mrU H bs).2.1 (4 * z + 5) H) ∧ Sl w' y (((mrU H bs).2.1.drop (z * (4 * z + 5 + H))).map (Value.int .u8))) ∧
      (¬ mrC z H bs = 0 → x = .agg #[.int .i64 0, .slice none 0 0, .slice none 0 0] ∧ y = .slice none 0 0) ∧ Below w.heap.size w w') → MrRes w w' z H bs x y) := fun w' x y h => by
    unfold MrRes mrParts mrPath mrNeed
    simpa using h
  have hLR := uI_left ((P : Int) - 1) bs 0
  rw [← hMU] at hLR
  have HLR := Lib.hid hLR
  have HRU := Lib.hid (fun (g : Nat) (w1 : World) (h : Rd w1 g bs 0) => cruint_any g bs 0 ((P : Int) - 1) w1 HB.out HLL.out h)
  rw [← hMU] at HRU
  have HC1 := Lib.hid hC1
  generalize mrU H bs = U at *
  obtain ⟨idx, rest, err⟩ := U
  simp only at HC1 HPO HRU HLR
  generalize mrC z H bs = CC at *
  clear hcan hcan' hP hPI hMU hC1 hLR
  go_enter Tryz.func27, Tryz.ntmps27
  go_wp2_with fail
  generalize (w.alloc (.cells #[.int .i64 0, .slice none 0 0, .slice none 0 0] 27)) = w1 at *
  refine HC.out.mono ?_
  rintro e w2 ⟨rfl, rfl⟩
  go_wp2_with fail
  refine (copen_any _ bs w1 HLL.out hs1).mono ?_
  rintro e w2 ⟨g, rfl, hg, hr2, hb2⟩
  have kZ := kZ.belowS hb2
  have hbr := hb1.trans (hb2.mono hb1.size)
  have hgP : w.heap.size < g := by omega
  clear hs1 hb1 hb2 hsz1 hg HC
  have HU := Lib.hid (HRU.out g w2 hr2)
  go_wp2_with fail
  refine HU.out.mono ?_
  rintro e w3 ⟨rfl, hr3, hg3⟩
  have kZ := kZ.grown hg3 (by intro e; cases e; omega)
  have hbr := below_of_only hbr hg3 (by omega) hbr.size
  clear hg3 HU hr2 HRU
  have hbA : Below w3.heap.size w3 (w3.alloc (.cells #[.int .i64 idx, .slice none 0 0, .slice none 0 0] 27)) := (Below.refl _ _).alloc (Nat.le_refl _) _
  have kS := Blk.new w3 27 #[.int .i64 idx, .slice none 0 0, .slice none 0 0]
  have kZ := kZ.belowS hbA
  have hr4 := hr3.below hbA
  have hbr := below_trans2 hbr hbA
  have HGZ := Lib.hid (show w.heap.size < w3.heap.size by obtain ⟨_, hk, _⟩ := hr3; have := hk.lt; omega)
  clear hr3 hbA
  go_wp2_with fail
  generalize (w3.alloc (.cells #[.int .i64 idx, .slice none 0 0, .slice none 0 0] 27)) = w4 at *
  generalize w3.heap.size = gs at *
  refine (crleft_any g _ _ w4 hr4).mono ?_
  rintro e w5 ⟨rfl, rfl⟩
  obtain ⟨D, hD⟩ : ∃ D : Nat, D = bs.length - rest.length := ⟨_, rfl⟩
  have hlr := suf_len HLR.out
  have HDR := Lib.hid (show bs.drop D = rest from by
    rcases HLR.out with h | h
    · subst h; rw [hD]; simp
    · obtain ⟨pre, rfl⟩ := h
      rw [hD, List.length_append, Nat.add_sub_cancel, List.drop_left])
  have HDL := Lib.hid (show D ≤ bs.length by omega)
  have hD2 : wrap64 ((bs.length : Int) - (rest.length : Int)) = D := by rw [hD]; have := HLL.out; simp only [wrap64]; omega
  have hs4 := HSS.out.below hbr (Nat.le_refl _)
  have HRL := Lib.hid (show rest.length ≤ 140737488351232 from Nat.le_trans hlr HLL.out)
  clear hlr hD
  go_wp2_with (refine wpList_from rfl _ _ 22 5 rfl Tryz.underlying22 size8 _ D _ rfl hs4 (by first | rfl | (rw [← hD2]; rfl)) (by have := HDL.out; simpa using this) ?_)
  intro ra rc hrs
  rw [← List.map_drop, HDR.out] at hrs
  have hmk := fun w1 => run_make_bytes z (by omega) w1
  have hrn : bs.length - D = rest.length := by have := congrArg List.length HDR.out; rw [List.length_drop] at this; exact this
  simp only [hrn] at hrs ⊢
  generalize hn : 4 * z + 5 = n at *
  have HN := Lib.hid (show n ≤ 133 by omega)
  have hbM : Below w4.heap.size w4 (w4.alloc (.cells (Array.replicate z (Value.int .u8 0)) 5)) := (Below.refl _ _).alloc (Nat.le_refl _) _
  have kM := Blk.new w4 5 (Array.replicate z (Value.int .u8 0))
  have hsM : Sl (w4.alloc (.cells (Array.replicate z (Value.int .u8 0)) 5)) (.slice (some ⟨w4.heap.size, 0, none⟩) z z) ((List.replicate z (0 : Int)).map (Value.int .u8)) := by
    refine Sl.ofBlk (t := 5) ?_ z (by simp) (by rw [List.length_map, List.length_replicate]; unfold maxLen; omega)
    rw [List.map_replicate, List.toArray_replicate]; exact kM
  have HDG := Lib.hid (digits_short (List.replicate z 0) _ (fun x hx => by rw [List.eq_of_mem_replicate hx]; omega) (by simp; omega) _ hsM)
  have HDN := Lib.hid (show (digitsOf (List.replicate z (0 : Int))).length = n by rw [digits_len _ (by simp; omega), List.length_replicate]; exact hn)
  generalize digitsOf (List.replicate z (0 : Int)) = DG at *
  have kZ := kZ.belowS hbM
  have kS := kS.belowS hbM
  have hr4 := hr4.below hbM
  have hrs := hrs.below hbM (Nat.le_refl _)
  have hbr := below_trans2 hbr hbM
  clear hbM kM hsM hs4 hn
  go_wp2_with fail
  generalize (w4.alloc (.cells (Array.replicate z (Value.int .u8 0)) 5)) = w5 at *
  refine HDG.out.mono ?_
  rintro e w6 ⟨dv, rfl, hdv, hb6⟩
  obtain ⟨da, dc, rfl, hdc⟩ : ∃ a c, dv = .slice a n c ∧ n ≤ c := by
    obtain ⟨a, c, e, h1, _⟩ := hdv.shape
    rw [List.length_map, HDN.out] at e h1
    exact ⟨a, c, e, h1⟩
  have kZ := kZ.belowS hb6
  have kS := kS.belowS hb6
  have hr6 := hr4.below hb6
  have hrs := hrs.below hb6 (Nat.le_refl _)
  have hbr := below_trans2 hbr hb6
  clear hb6 hdv HDG HDN hr4 hmk
  go_wp2_with fail
  have HE := Lib.hid (crerr_any g _ _ w6 hr6)
  refine HE.out.mono ?_
  rintro e w7 ⟨rfl, rfl⟩
  by_cases he : err = 0
  rotate_left
  · have he' : (err != 0) = true := by simp [he]
    rw [if_pos he] at HC1
    have HNO := Lib.hid (show ¬ CC = 0 by rw [HC1.out]; exact he)
    have HBR := Lib.hid hbr
    obtain ⟨z0, z1, z2⟩ := rec3 kZ
    have f0 := kZ.frozen 0
    have f1 := kZ.frozen 1
    have f2 := kZ.frozen 2
    have hwz := kZ.lt
    clear he hbr
    go_wp2_with fail
    refine HE.out.mono ?_
    rintro e w7 ⟨rfl, rfl⟩
    go_wp2
    exact bodyPost_ret (by rw [results_cell_tmp2 rfl]; go_simp; exact rfl) rfl ⟨_, _, by rw [HC1.out], HPO.out _ _ _ ⟨fun h => absurd h HNO.out, fun _ => ⟨rfl, rfl⟩, set3_below HBR.out (Nat.le_refl _) (by omega) _ _ _⟩⟩
  subst he
  have he' : ((0 : Int) != 0) = false := rfl
  obtain ⟨M, hM⟩ : ∃ M : Nat, M = n + H := ⟨_, rfl⟩
  obtain ⟨T, hT⟩ : ∃ T : Nat, T = z * M := ⟨_, rfl⟩
  have hM1 : M ≤ 141 := by have := HN.out; omega
  have hT1 : T ≤ 4512 := by rw [hT]; exact Nat.le_trans (Nat.mul_le_mul hz.2 hM1) (by decide)
  have hMI : wrap64 ((n : Int) + (H : Int)) = (M : Int) := by rw [hM]; unfold wrap64; omega
  have hTI : wrap64 ((z : Int) * (M : Int)) = (T : Int) := by rw [show ((z : Int) * (M : Int)) = ((z * M : Nat) : Int) by simp, ← hT]; unfold wrap64; omega
  rw [← hM, ← hT] at HC1 HPO
  have HM := Lib.hid hM
  have HT := Lib.hid hT
  by_cases hsh : rest.length < T
  · have hshI : (rest.length : Int) < (T : Int) := Int.ofNat_lt.2 hsh
    rw [if_neg (by simp), if_pos hsh] at HC1
    have HBR := Lib.hid hbr
    obtain ⟨z0, z1, z2⟩ := rec3 kZ
    have f0 := kZ.frozen 0
    have f1 := kZ.frozen 1
    have f2 := kZ.frozen 2
    have hwz := kZ.lt
    clear hsh hbr hM hT
    go_wp2
    exact bodyPost_ret (by rw [results_cell_tmp2 rfl]; go_simp; exact rfl) rfl ⟨_, _, by rw [HC1.out], HPO.out _ _ _ ⟨fun h => by rw [HC1.out] at h; exact absurd h (by decide), fun _ => ⟨rfl, rfl⟩, set3_below HBR.out (Nat.le_refl _) (Nat.le_of_lt hwz) _ _ _⟩⟩
  have hshI : ¬ (rest.length : Int) < (T : Int) := fun h => hsh (Int.ofNat_lt.1 h)
  rw [if_neg (by simp), if_neg hsh] at HC1
  have HSH := Lib.hid (show T ≤ rest.length from Nat.le_of_not_lt hsh)
  have HRS := Lib.hid hrs
  have HM0 := Lib.hid (show MrS w w6 gs idx (.slice none 0 0) (.slice none 0 0) w6.heap.size [] [] from ⟨kS, kZ, OSls.nil _ _, OSls.nil _ _, fun g hg => by simp [Value.ownBlock] at hg, Nat.le_refl _, hbr.size, hbr, HGZ.out⟩)
  have HZ := Lib.hid hz
  have HT1 := Lib.hid hT1
  have HM1 := Lib.hid hM1
  have HHH := Lib.hid hH
  clear hsh hbr hM hT kZ kS hrs hr6 HE HLR HDR HDL HSS hD2 hrn hW hW2 hP1 hM1 hT1 hH hz he'
  go_wp2
  rw [show decide (rest.length < T) = false from decide_eq_false (Nat.not_lt.2 HSH.out), hMI, hTI]
  go_loopw [59] (fun i wr => ∃ (k Bq : Nat) (vp vq : Value), i = .int .i64 k ∧ k ≤ M ∧ MrS w wr gs idx vp vq Bq (chunksI z rest 0 (min k n)) (chunksI z rest n (k - n)) ∧ (k ≤ n → vq = .slice none 0 0) ∧ Sl wr (.slice ra rest.length rc) (rest.map (Value.int .u8))) (fun i _ => M - (intOf i).toNat)
  case atStart => exact ⟨0, _, _, _, rfl, by omega, by simpa [chunksI] using HM0.out, fun _ => rfl, HRS.out⟩
  case round =>
    obtain ⟨k, Bq, vp, vq, rfl, hk, hS, hq0, hrs⟩ := hrel
    by_cases hlt : k < M
    · have hkI : (k : Int) < (M : Int) := Int.ofNat_lt.2 hlt
      have HLT := Lib.hid hlt
      have HKW := Lib.hid (next_at hlt HM1.out)
      obtain ⟨q, r, hq, hr, hrT, hqr, hqI, hrI⟩ := piece_at hlt HT.out HT1.out
      obtain ⟨hch0, hchl⟩ := chunk_piece rest hq hr (Nat.le_trans hrT HSH.out)
      have HQR := Lib.hid (And.intro hqr (Nat.le_trans hrT HSH.out))
      have HCH := Lib.hid hch0
      have HRZ := Lib.hid hchl.symm
      have HCL := Lib.hid (show (chunkI z rest k).length ≤ 4512 from by rw [hchl]; exact Nat.le_trans (Nat.sub_le _ _) (Nat.le_trans hrT HT1.out))
      clear hq hr hrT hqr hlt hch0 hchl
      go_wp2_with (refine wpList_part rfl _ _ _ 22 5 rfl Tryz.underlying22 size8 _ q r _ rfl hrs (by first | rfl | (rw [← hqI]; rfl)) (by first | rfl | (rw [← hrI]; rfl)) HQR.out.1 (by have := HQR.out; simpa using this.2) ?_)
      intro ad ac hch
      rw [← List.map_drop, ← List.map_take, HCH.out] at hch
      have HCN := Lib.hid (sclone_own _ _ wr (by have := HCL.out; omega) hch)
      go_wp2_with fail
      refine HCN.out.mono ?_
      rintro e w2 ⟨xv, rfl, hxo, hb2⟩
      have hx := Sl.of_owns hxo
      obtain ⟨xa, xn, xc, rfl⟩ := hx.val
      have hS2 := hS.below hb2
      have hrs2 := hrs.below hb2 (Nat.le_refl _)
      have hbB : Below w2.heap.size w2 (w2.alloc (.cells #[.slice xa xn xc] 22)) := (Below.refl _ _).alloc (Nat.le_refl _) _
      have hx3 := hx.below hbB (Nat.le_refl _)
      have hrs3 := hrs2.below hbB (Nat.le_refl _)
      have hc2 := (Blk.new w2 22 #[.slice xa xn xc]).cell 0
      have hm1 := HM1.out
      clear hS hrs hb2 hxo hx hch hrs2 HCN hqI hrI
      by_cases hkn : k < n
      · obtain rfl := hq0 (Nat.le_of_lt hkn)
        have hknI : (k : Int) < (n : Int) := Int.ofNat_lt.2 hkn
        rw [Nat.min_eq_left (Nat.le_of_lt hkn), Nat.sub_eq_zero_of_le (Nat.le_of_lt hkn), show chunksI z rest n 0 = [] from rfl] at hS2
        have HSU := Lib.hid (show chunksI z rest 0 (k + 1) = chunksI z rest 0 k ++ [chunkI z rest k] by rw [chunksI_succ, Nat.zero_add])
        have HLN := Lib.hid (show (chunksI z rest 0 k).length + 1 ≤ 5000000000000 by rw [chunksI_len]; omega)
        have HKN := Lib.hid hkn
        generalize chunksI z rest 0 k = PL at *
        obtain ⟨pa, pc, rfl⟩ := hS2.hP.val
        have q1 : w2.cell? ⟨gs, 1, none⟩ = some (.slice pa PL.length pc) := hS2.kS.cell 1
        have HS3 := Lib.hid (hS2.below hbB)
        have HW2 := Lib.hid (show w.heap.size ≤ (w2.alloc (.cells #[.slice xa xn xc] 22)).heap.size from (HS3.out).bel.size)
        have HR3 := Lib.hid hrs3
        clear hkn hS2 hrs3 hm1
        go_wp2_with (at_builtin; refine wpList_append_text rfl _ _ rfl w.heap.size _ PL rfl HS3.out.hP w2.heap.size 1 rfl (.slice xa xn xc) hc2 _ hx3 HLN.out HW2.out ?_)
        intro l5 w5 hO5 hb5 hg5
        obtain ⟨a5, c5, rfl⟩ := hO5.val
        obtain ⟨f5, q5, hS5, hk5⟩ := HS3.out.app1 hO5 hg5 hb5
        have HS5 := Lib.hid hS5
        have HR5 := Lib.hid (hk5 _ _ HR3.out)
        clear hO5 hb5 hg5 hS5 hk5 hx3 hc2 q1
        generalize (PL ++ [chunkI z rest k]).length = lenX at *
        go_wp2
        go_roundw
        case rel => exact ⟨k + 1, _, _, _, by rw [HKW.out], HLT.out, by rw [Nat.min_eq_left HKN.out, Nat.sub_eq_zero_of_le HKN.out, HSU.out]; exact HS5.out, fun _ => rfl, HR5.out⟩
        case measure => rw [HKW.out]; have := HLT.out; simp [intOf]; omega
      · have hknI : ¬ (k : Int) < (n : Int) := fun h => hkn (Int.ofNat_lt.1 h)
        have hnk : n ≤ k := Nat.le_of_not_lt hkn
        rw [Nat.min_eq_right hnk] at hS2
        have HSU := Lib.hid (show chunksI z rest n (k + 1 - n) = chunksI z rest n (k - n) ++ [chunkI z rest k] by rw [show k + 1 - n = (k - n) + 1 by omega, chunksI_succ, show n + (k - n) = k by omega])
        have HLN := Lib.hid (show (chunksI z rest n (k - n)).length + 1 ≤ 5000000000000 by rw [chunksI_len]; omega)
        have HKN := Lib.hid hnk
        generalize chunksI z rest n (k - n) = QL at *
        generalize hPL : chunksI z rest 0 n = PL at *
        have HPL := Lib.hid hPL
        clear hPL
        obtain ⟨qa, qc, rfl⟩ := hS2.hQ.val
        have q2 : w2.cell? ⟨gs, 2, none⟩ = some (.slice qa QL.length qc) := hS2.kS.cell 2
        have HS3 := Lib.hid (hS2.below hbB)
        have HR3 := Lib.hid hrs3
        clear hkn hnk hS2 hrs3 hm1
        go_wp2_with (at_builtin; refine wpList_append_text rfl _ _ rfl Bq _ QL rfl HS3.out.hQ w2.heap.size 1 rfl (.slice xa xn xc) hc2 _ hx3 HLN.out HS3.out.le ?_)
        intro l5 w5 hO5 hb5 hg5
        obtain ⟨a5, c5, rfl⟩ := hO5.val
        obtain ⟨f5, q5, hS5, hk5⟩ := HS3.out.app2 hO5 hg5 hb5 HS3.out.lo
        have HS5 := Lib.hid hS5
        have HR5 := Lib.hid (hk5 _ _ HR3.out)
        clear hO5 hb5 hg5 hS5 hk5 hx3 hc2 q2
        generalize (QL ++ [chunkI z rest k]).length = lenX at *
        go_wp2
        go_roundw
        case rel => exact ⟨k + 1, _, _, _, by rw [HKW.out], HLT.out, by rw [Nat.min_eq_right (Nat.le_succ_of_le HKN.out), HSU.out, HPL.out]; exact HS5.out, fun h => absurd h (by have := HKN.out; omega), HR5.out⟩
        case measure => rw [HKW.out]; have := HLT.out; simp [intOf]; omega
    · have hkM : k = M := Nat.le_antisymm hk (Nat.le_of_not_lt hlt)
      subst hkM
      have hkI : ¬ (k : Int) < (k : Int) := fun h => absurd h (Int.lt_irrefl _)
      rw [HM.out, Nat.min_eq_right (Nat.le_add_right n H), Nat.add_sub_cancel_left] at hS
      obtain ⟨d0, d1, d2⟩ := rec3 hS.kS
      obtain ⟨z0, z1, z2⟩ := rec3 hS.kZ
      have HSS := Lib.hid hS
      have HR := Lib.hid hrs
      clear hS hrs hq0 hlt hk
      have HCLN := Lib.hid (clone_rest HR.out HSH.out HRL.out)
      have hTr : (T : Int) ≤ (rest.length : Int) := Int.ofNat_le.2 HSH.out
      obtain ⟨pa, pc, rfl⟩ := HSS.out.hP.val
      obtain ⟨qa, qc, rfl⟩ := HSS.out.hQ.val
      have hrc : (rest.length : Int) ≤ (rc : Int) := by
        obtain ⟨a, cap, e, h1, _⟩ := HR.out
        rw [List.length_map] at h1 e
        cases e
        exact Int.ofNat_le.2 h1
      generalize (chunksI z rest 0 n).length = lenP at *
      generalize (chunksI z rest n H).length = lenQ at *
      have hMI2 : IntKind.i64.wrap ((n : Int) + (H : Int)) = (k : Int) := wrap_of hMI
      have hTI2 : IntKind.i64.wrap ((z : Int) * (k : Int)) = (T : Int) := wrap_of hTI
      clear hMI hTI
      have HKS := Lib.hid (fun w' (h : Below wr.heap.size wr w') => (rec3 (HSS.out.kS.belowS h)))
      have hG := Lib.hid (HKS.out _ (Below.refl _ _))
      have HKZ := Lib.hid (fun w' (h : Below wr.heap.size wr w') => (rec3 (HSS.out.kZ.belowS h)))
      have HKF := Lib.hid (fun w' (h : Below wr.heap.size wr w') (i : Nat) => ((HSS.out.kZ.belowS h).frozen i))
      have hne1 : ¬ gs = w.heap.size := by have := HSS.out.zs; omega
      have hne2 : ¬ w.heap.size = gs := by have := HSS.out.zs; omega
      by_cases hcap : rc = T
      · rw [if_pos hcap, show rc - T = 0 by omega] at HCLN
        go_upto_region 19 with (fail)
        go_region_held3 (fun w' => w'.cell? ⟨gs, 0, none⟩ = some (.int .i64 idx) ∧ w'.cell? ⟨gs, 1, none⟩ = some (.slice pa lenP pc) ∧ w'.cell? ⟨gs, 2, none⟩ = some (.slice qa lenQ qc)) (first | exact hG.out | exact hG2.out) (first | (go_at_call 41; refine (HCLN.out _ (by first | exact Below.refl _ _ | exact (Below.refl _ _).drew)).mono ?_; rintro e w9 ⟨y9, rfl, hy9, hb9⟩; have hb9 : Below wr.heap.size wr w9 := ⟨hb9.os, hb9.tape, hb9.output, hb9.size, hb9.block⟩; have hG := Lib.hid (HKS.out _ hb9); obtain ⟨y0, y1, y2⟩ := HKZ.out _ hb9; have f0 := HKF.out _ hb9 0; have f1 := HKF.out _ hb9 1; have f2 := HKF.out _ hb9 2; have hG2 := Lib.hid (rec3 ((((HSS.out.kS.belowS hb9).far (p := ⟨w.heap.size, 0, none⟩) hne1 (.int .i64 idx)).far (p := ⟨w.heap.size, 1, none⟩) hne1 (.slice pa lenP pc)).far (p := ⟨w.heap.size, 2, none⟩) hne1 (.slice qa lenQ qc)))))
        go_wp2
        exact bodyPost_ret (by rw [results_cell_tmp2 rfl]; go_simp; exact rfl) rfl ⟨_, _, by rw [HC1.out], HPO.out _ _ _ ⟨fun _ => (HSS.out.stored hb9 hy9 _ _ _).1, fun h => absurd HC1.out h, (HSS.out.stored hb9 hy9 _ _ _).2⟩⟩
      · rw [if_neg hcap] at HCLN
        go_upto_region 19 with (fail)
        go_region_held3 (fun w' => w'.cell? ⟨gs, 0, none⟩ = some (.int .i64 idx) ∧ w'.cell? ⟨gs, 1, none⟩ = some (.slice pa lenP pc) ∧ w'.cell? ⟨gs, 2, none⟩ = some (.slice qa lenQ qc)) (first | exact hG.out | exact hG2.out) (first | (go_at_call 41; refine (HCLN.out _ (by first | exact Below.refl _ _ | exact (Below.refl _ _).drew)).mono ?_; rintro e w9 ⟨y9, rfl, hy9, hb9⟩; have hb9 : Below wr.heap.size wr w9 := ⟨hb9.os, hb9.tape, hb9.output, hb9.size, hb9.block⟩; have hG := Lib.hid (HKS.out _ hb9); obtain ⟨y0, y1, y2⟩ := HKZ.out _ hb9; have f0 := HKF.out _ hb9 0; have f1 := HKF.out _ hb9 1; have f2 := HKF.out _ hb9 2; have hG2 := Lib.hid (rec3 ((((HSS.out.kS.belowS hb9).far (p := ⟨w.heap.size, 0, none⟩) hne1 (.int .i64 idx)).far (p := ⟨w.heap.size, 1, none⟩) hne1 (.slice pa lenP pc)).far (p := ⟨w.heap.size, 2, none⟩) hne1 (.slice qa lenQ qc)))))
        go_wp2
        exact bodyPost_ret (by rw [results_cell_tmp2 rfl]; go_simp; exact rfl) rfl ⟨_, _, by rw [HC1.out], HPO.out _ _ _ ⟨fun _ => (HSS.out.stored hb9 hy9 _ _ _).1, fun h => absurd HC1.out h, (HSS.out.stored hb9 hy9 _ _ _).2⟩⟩

end Go.Proofs.YtjhannlioddkkaaGreatDoor
