
/- Signatures of small trees: what they are, and Write. -/
import Derived.Test.YtjhannlioddkkaaDoorConc
import Derived.Test.YtjhannlioddkkaaDoorCodecR
import Derived.Test.YtjhannlioddkkaaDoorBlk
namespace Go.Proofs.YtjhannlioddkkaaDoor
open Go.RowKit
set_option linter.unusedVariables false

/-- The value is a signature. -/
def SigV (w : World) (v : Value) (idx : Int) (parts path : List (List Int)) : Prop :=
  ∃ vp vq, v = .agg #[.int .i64 idx, vp, vq] ∧ Sls w vp parts ∧ Sls w vq path
theorem SigV.below {w w' : World} {v : Value} {idx : Int} {parts path : List (List Int)} (h : SigV w v idx parts path) {B : Nat} (hb : Below B w w') (hB : w.heap.size ≤ B) : SigV w' v idx parts path := by
  obtain ⟨vp, vq, rfl, h1, h2⟩ := h
  exact ⟨vp, vq, rfl, h1.below hb hB, h2.below hb hB⟩
theorem SigV.val {w : World} {v : Value} {idx : Int} {parts path : List (List Int)} (h : SigV w v idx parts path) : ∃ pa pc qa qc, v = .agg #[.int .i64 idx, .slice pa parts.length pc, .slice qa path.length qc] := by
  obtain ⟨vp, vq, rfl, h1, h2⟩ := h
  obtain ⟨_, _, rfl, _, _⟩ := h1.shape
  obtain ⟨_, _, rfl, _, _⟩ := h2.shape
  exact ⟨_, _, _, _, rfl⟩
theorem SigV.parts {w : World} {pa qa : Option Addr} {pn qn pc qc : Nat} {idx idx' : Int} {parts path : List (List Int)} (h : SigV w (.agg #[.int .i64 idx', .slice pa pn pc, .slice qa qn qc]) idx parts path) : Sls w (.slice pa pn pc) parts ∧ Sls w (.slice qa qn qc) path := by
  obtain ⟨vp, vq, he, h1, h2⟩ := h
  cases he
  exact ⟨h1, h2⟩

theorem rec3 {w : World} {g : Nat} {t : TypeId} {x0 x1 x2 : Value} (k : Blk w g t #[x0, x1, x2]) :
    w.cell? ⟨g, 0, none⟩ = some x0 ∧ w.cell? ⟨g, 1, none⟩ = some x1 ∧ w.cell? ⟨g, 2, none⟩ = some x2 := ⟨k.cell 0, k.cell 1, k.cell 2⟩

/-- A signature's bytes behind bytes. -/
def sigTo (bs : List Int) (idx : Int) (parts path : List (List Int)) : Nat → List Int
  | 0 => bs ++ uintN idx.toNat
  | 1 => (bs ++ uintN idx.toNat) ++ parts.flatten
  | _ => ((bs ++ uintN idx.toNat) ++ parts.flatten) ++ path.flatten

set_option linter.unusedSimpArgs false in
set_option maxRecDepth 100000 in
set_option maxHeartbeats 2000000 in
theorem swrite_any (v : Value) (bs : List Int) (sv : Value) (idx : Int) (parts path : List (List Int)) (w : World) (h0 : 0 ≤ idx) (h1 : idx ≤ 4611686018427387904) (hT : (sigTo bs idx parts path 2).length ≤ 100000000000000) (hs : Sl w v (bs.map (Value.int .u8))) (hg : SigV w sv idx parts path) :
    Calls Tryd.prog 14 #[v, sv] w fun e w' => ∃ x, e = .returned x ∧ w'.ownsRow w.heap.size 5 1 x (sigTo bs idx parts path 2).length ((sigTo bs idx parts path 2).map (Value.int .u8)) ∧ Below w.heap.size w w' := by
  obtain ⟨pa, pc, qa, qc, rfl⟩ := hg.val
  obtain ⟨g1, g2⟩ := hg.parts
  have hL0 : (sigTo bs idx parts path 0).length ≤ 100000000000000 := by unfold sigTo at hT ⊢; simp only [List.length_append] at hT ⊢; omega
  have hLp : parts.flatten.length ≤ 100000000000000 := by unfold sigTo at hT; simp only [List.length_append] at hT; omega
  have hLq : path.flatten.length ≤ 100000000000000 := by unfold sigTo at hT; simp only [List.length_append] at hT; omega
  have hL1 : (sigTo bs idx parts path 1).length ≤ 100000000000000 := by unfold sigTo at hT ⊢; simp only [List.length_append] at hT ⊢; omega
  have hb1 : Below w.heap.size w (w.alloc (.cells #[.int .i64 idx, .slice pa parts.length pc, .slice qa path.length qc] 24)) := (Below.refl _ _).alloc (Nat.le_refl _) _
  have kS := Blk.new w 24 #[.int .i64 idx, .slice pa parts.length pc, .slice qa path.length qc]
  have HU := Lib.hid (cuint_any v bs idx (w.alloc (.cells #[.int .i64 idx, .slice pa parts.length pc, .slice qa path.length qc] 24)) (by unfold sigTo at hL0; simp only [List.length_append] at hL0; omega) (hs.below hb1 (Nat.le_refl _)) h0 h1)
  have HG1 := Lib.hid (fun w' (h : Below w.heap.size w w') => g1.below h (Nat.le_refl _))
  have HG2 := Lib.hid (fun w' (h : Below w.heap.size w w') => g2.below h (Nat.le_refl _))
  have HL0 := Lib.hid hL0
  have HL1 := Lib.hid hL1
  have HLp := Lib.hid hLp
  have HLq := Lib.hid hLq
  have HT := Lib.hid hT
  clear hs hg g1 g2 hT hL0 hL1 hLp hLq h0 h1
  have x0 : ∀ w : World, (Instr.index 93 (.agg #[.slice pa parts.length pc, .slice qa path.length qc]) (.int .i64 0)).run Tryd.prog w = .ok (.slice pa parts.length pc) w := fun _ => by kernel_rfl
  have x1 : ∀ w : World, (Instr.index 93 (.agg #[.slice pa parts.length pc, .slice qa path.length qc]) (.int .i64 1)).run Tryd.prog w = .ok (.slice qa path.length qc) w := fun _ => by kernel_rfl
  go_enter Tryd.func14, Tryd.ntmps14
  go_wp2_with fail
  refine HU.out.mono ?_
  rintro e w2 ⟨x, rfl, hO, hb2⟩
  have hbr := below_trans2 hb1 hb2
  have hO : w2.ownsRow w.heap.size 5 1 x (sigTo bs idx parts path 0).length ((sigTo bs idx parts path 0).map (Value.int .u8)) := by
    rw [show (sigTo bs idx parts path 0).length = bs.length + (uintN idx.toNat).length from List.length_append]
    exact ownsRow_base hO (by simp)
  obtain ⟨c0, c1, c2⟩ := rec3 (kS.belowS hb2)
  clear HU hb1 hb2 kS
  obtain ⟨i0, hi, hz0, hz1, hz2⟩ := info_parts info8c
  go_wp2
  go_loopw [0, 16] (fun b i wr => ∃ (k : Nat) (bv : Value), bv = b ∧ k ≤ 2 ∧ i = .int .i64 k ∧ wr.ownsRow w.heap.size 5 1 bv (sigTo bs idx parts path k).length ((sigTo bs idx parts path k).map (Value.int .u8)) ∧ Below w.heap.size w wr) (fun _ i _ => 2 - (intOf i).toNat)
  case atStart => exact ⟨0, _, rfl, by omega, rfl, hO, hbr⟩
  case round =>
    clear hO hbr c0 c1 c2
    obtain ⟨k, bv, rfl, hk, rfl, hO, hbr⟩ := hrel
    obtain rfl | rfl | rfl : k = 0 ∨ k = 1 ∨ k = 2 := by omega
    all_goals clear hk
    all_goals simp only [Int.natCast_zero, Int.natCast_one, Int.cast_ofNat_Int]
    · have HC := Lib.hid (concat_any (.slice pa parts.length pc) parts wr HLp.out (HG1.out wr hbr))
      have HS := Lib.hid (show sigTo bs idx parts path (0 + 1) = sigTo bs idx parts path 0 ++ parts.flatten from rfl)
      have HQ := Lib.hid (show (sigTo bs idx parts path 0).length + parts.flatten.length ≤ 100000000000000 by have h := HL1.out; rw [show sigTo bs idx parts path 1 = sigTo bs idx parts path 0 ++ parts.flatten from rfl, List.length_append] at h; exact h)
      generalize sigTo bs idx parts path 0 = S0 at *
      generalize parts.flatten = P at *
      go_wp2_with fail
      refine HC.out.mono ?_
      rintro e w3 ⟨x3, rfl, ho3, hb3⟩
      have hs3 := Sl.of_owns ho3
      have hO3 := ownsRow_below hO hb3 (Nat.le_refl _)
      have hbr3 := below_trans2 hbr hb3
      obtain ⟨ua, un, uc, rfl⟩ := hs3.val
      go_wp2_with (at_builtin; refine wpList_append_sl rfl _ _ 25 rfl w.heap.size 5 i0 (.int .u8 0) 1 Tryd.underlying25 hi hz0 hz1 hz2 rfl _ S0.length (S0.map (Value.int .u8)) rfl hO3 (.slice ua un uc) (P.map (Value.int .u8)) rfl hs3 (one8 _) (by have h1 := HQ.out; rw [List.length_map]; unfold maxLen; omega) (by have h1 := HQ.out; rw [List.length_map]; omega) hbr3.size ?_)
      intro xv w4 hown4 hg4
      have hb4 := below_grown hbr3 hO3 (Nat.le_refl _) hbr3.size hg4
      rw [← List.length_append, ← List.map_append, ← HS.out] at hown4
      clear hO hO3 hs3 ho3 hbr hbr3 hb3
      go_wp2
      exact ⟨⟨1, xv, rfl, by omega, by go_num, hown4, hb4⟩, by simp [intOf]⟩
    · have HC := Lib.hid (concat_any (.slice qa path.length qc) path wr HLq.out (HG2.out wr hbr))
      have HS := Lib.hid (show sigTo bs idx parts path (1 + 1) = sigTo bs idx parts path 1 ++ path.flatten from rfl)
      have HQ := Lib.hid (show (sigTo bs idx parts path 1).length + path.flatten.length ≤ 100000000000000 by have h := HT.out; rw [show sigTo bs idx parts path 2 = sigTo bs idx parts path 1 ++ path.flatten from rfl, List.length_append] at h; exact h)
      generalize sigTo bs idx parts path 1 = S0 at *
      generalize path.flatten = P at *
      go_wp2_with fail
      refine HC.out.mono ?_
      rintro e w3 ⟨x3, rfl, ho3, hb3⟩
      have hs3 := Sl.of_owns ho3
      have hO3 := ownsRow_below hO hb3 (Nat.le_refl _)
      have hbr3 := below_trans2 hbr hb3
      obtain ⟨ua, un, uc, rfl⟩ := hs3.val
      go_wp2_with (at_builtin; refine wpList_append_sl rfl _ _ 25 rfl w.heap.size 5 i0 (.int .u8 0) 1 Tryd.underlying25 hi hz0 hz1 hz2 rfl _ S0.length (S0.map (Value.int .u8)) rfl hO3 (.slice ua un uc) (P.map (Value.int .u8)) rfl hs3 (one8 _) (by have h1 := HQ.out; rw [List.length_map]; unfold maxLen; omega) (by have h1 := HQ.out; rw [List.length_map]; omega) hbr3.size ?_)
      intro xv w4 hown4 hg4
      have hb4 := below_grown hbr3 hO3 (Nat.le_refl _) hbr3.size hg4
      rw [← List.length_append, ← List.map_append, ← HS.out] at hown4
      clear hO hO3 hs3 ho3 hbr hbr3 hb3
      go_wp2
      exact ⟨⟨2, xv, rfl, by omega, by go_num, hown4, hb4⟩, by simp [intOf]⟩
    · go_wp2
      go_ret
      exact ⟨_, rfl, hO, hbr⟩

end Go.Proofs.YtjhannlioddkkaaDoor
