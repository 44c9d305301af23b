
/- Signatures as bytes: the reference's Write. Conditions: none. -/
import Derived.Test.YtjhannlioddkkaaDoorSig1
import Derived.Deep.Cut
namespace Go.Proofs.YtjhannlioddkkaaDoor
open Go.RowKit
set_option linter.unusedVariables false

/-- Some texts behind bytes. -/
def catTo (a : List Int) (pss : List (List Int)) (k : Nat) : List Int := a ++ (pss.take k).flatten
theorem catTo_zero (a : List Int) (pss : List (List Int)) : catTo a pss 0 = a := by simp [catTo]
theorem catTo_all (a : List Int) (pss : List (List Int)) : catTo a pss pss.length = a ++ pss.flatten := by simp [catTo]
theorem catTo_succ (a : List Int) (pss : List (List Int)) (k : Nat) (hk : k < pss.length) : catTo a pss (k + 1) = catTo a pss k ++ pss.getD k [] := by
  unfold catTo
  rw [flat_succ pss k hk, List.append_assoc]
theorem catTo_len (a : List Int) (pss : List (List Int)) (k : Nat) : (catTo a pss k).length ≤ a.length + pss.flatten.length := by
  unfold catTo
  rw [List.length_append]
  exact Nat.add_le_add_left (flat_le pss k) _

set_option maxRecDepth 100000 in
set_option maxHeartbeats 4000000 in
theorem rswrite_any (v : Value) (bs : List Int) (sv : Value) (idx : Int) (parts path : List (List Int)) (w : World) (h0 : 0 ≤ idx) (h1 : idx ≤ 4611686018427387904) (hT : (sigTo bs idx parts path 2).length ≤ 100000000000000) (hs : Sl w v (bs.map (Value.int .u8))) (hg : SigV w sv idx parts path) :
    Calls Tryd.prog 15 #[v, sv] w fun e w' => ∃ x, e = .returned x ∧ w'.ownsRow w.heap.size 5 1 x (sigTo bs idx parts path 2).length ((sigTo bs idx parts path 2).map (Value.int .u8)) ∧ Below w.heap.size w w' := by
  obtain ⟨pa, pc, qa, qc, rfl⟩ := hg.val
  obtain ⟨g1, g2⟩ := hg.parts
  have hS0 : sigTo bs idx parts path 2 = (sigTo bs idx parts path 0 ++ parts.flatten) ++ path.flatten := rfl
  have hLL : (sigTo bs idx parts path 0).length + parts.flatten.length + path.flatten.length ≤ 100000000000000 := by rw [hS0] at hT; simpa [Nat.add_assoc] using hT
  have hb1 : Below w.heap.size w (w.alloc (.cells #[.int .i64 idx, .slice pa parts.length pc, .slice qa path.length qc] 24)) := (Below.refl _ _).alloc (Nat.le_refl _) _
  have kS := Blk.new w 24 #[.int .i64 idx, .slice pa parts.length pc, .slice qa path.length qc]
  have hU0 : (sigTo bs idx parts path 0).length = bs.length + (uintN idx.toNat).length := List.length_append
  have HU := Lib.hid (ruint_any v bs idx (w.alloc (.cells #[.int .i64 idx, .slice pa parts.length pc, .slice qa path.length qc] 24)) (by omega) (hs.below hb1 (Nat.le_refl _)) h0 h1)
  have HG1 := Lib.hid (fun w' (h : Below w.heap.size w w') => g1.below h (Nat.le_refl _))
  have HG2 := Lib.hid (fun w' (h : Below w.heap.size w w') => g2.below h (Nat.le_refl _))
  have HLL := Lib.hid hLL
  have HS0 := Lib.hid hS0
  have HPL := Lib.hid (show parts.length ≤ 9223372036854775807 by obtain ⟨_, _, _, h3, h4⟩ := g1.shape; exact Nat.le_trans h3 h4)
  have HQL := Lib.hid (show path.length ≤ 9223372036854775807 by obtain ⟨_, _, _, h3, h4⟩ := g2.shape; exact Nat.le_trans h3 h4)
  clear hs hg g1 g2 hT hLL hS0 h0 h1
  obtain ⟨i0, hi, hz0, hz1, hz2⟩ := info_parts info8c
  go_enter Tryd.func15, Tryd.ntmps15
  go_wp2_with fail
  refine HU.out.mono ?_
  rintro e w2 ⟨x, rfl, hO, hb2⟩
  have hbr := below_trans2 hb1 hb2
  have hO : w2.ownsRow w.heap.size 5 1 x (catTo (sigTo bs idx parts path 0) parts 0).length ((catTo (sigTo bs idx parts path 0) parts 0).map (Value.int .u8)) := by
    rw [catTo_zero, hU0]
    exact ownsRow_base hO (by simp)
  have kS := kS.belowS hb2
  obtain ⟨c0, c1, c2⟩ := rec3 kS
  generalize sigTo bs idx parts path 0 = S0 at *
  clear HU hb1 hb2 hU0
  have HKS := Lib.hid kS
  clear kS
  go_wp2
  go_loopw [5, 17] (fun b i wr => ∃ (k : Nat) (bv : Value), bv = b ∧ k ≤ parts.length ∧ i = .int .i64 k ∧ wr.ownsRow w.heap.size 5 1 bv (catTo S0 parts k).length ((catTo S0 parts k).map (Value.int .u8)) ∧ Below w.heap.size w wr ∧ Blk wr w.heap.size 24 #[.int .i64 idx, .slice pa parts.length pc, .slice qa path.length qc]) (fun _ i _ => parts.length - (intOf i).toNat)
  case atStart => exact ⟨0, _, rfl, by omega, rfl, hO, hbr, HKS.out⟩
  case round =>
    clear hO hbr c0 c1 c2
    obtain ⟨k, bv, rfl, hk, rfl, hO, hbr, kS⟩ := hrel
    by_cases hlt : k < parts.length
    · obtain ⟨b1, o1, rfl, hb1, u1, k1, t1⟩ := (HG1.out wr hbr).at hlt
      have hkI : (k : Int) < (parts.length : Int) := by omega
      have HSU := Lib.hid (catTo_succ S0 parts k hlt)
      have HCL := Lib.hid (show (catTo S0 parts k).length + (parts.getD k []).length ≤ 100000000000000 by
        have h1 := catTo_len S0 parts (k + 1)
        have h2 := HLL.out
        rw [catTo_succ S0 parts k hlt, List.length_append] at h1
        omega)
      have HKS := Lib.hid kS
      have HKW := Lib.hid (show wrap64 ((k : Int) + 1) = ((k + 1 : Nat) : Int) by have := HPL.out; unfold wrap64; omega)
      generalize parts.getD k [] = P at *
      generalize catTo S0 parts k = S1 at *
      obtain ⟨xa, xn, xc, rfl⟩ := t1.val
      clear kS hk
      go_wp2_with (at_builtin; refine wpList_append_sl rfl _ _ 25 rfl w.heap.size 5 i0 (.int .u8 0) 1 Tryd.underlying25 hi hz0 hz1 hz2 rfl _ S1.length (S1.map (Value.int .u8)) rfl hO (.slice xa xn xc) (P.map (Value.int .u8)) rfl t1 (one8 _) (by have h1 := HCL.out; rw [List.length_map]; unfold maxLen; omega) (by have h1 := HCL.out; rw [List.length_map]; omega) hbr.size ?_)
      intro xv w4 hown4 hg4
      have hb4 := below_grown hbr hO (Nat.le_refl _) hbr.size hg4
      have kS4 := HKS.out.grown hg4 (fun e => own_blk_ne hO HKS.out (by decide) e.symm)
      rw [← List.length_append, ← List.map_append, ← HSU.out] at hown4
      have HO4 := Lib.hid hown4
      clear hO hbr hown4 hg4
      go_wp2
      go_roundw
      case rel => exact ⟨k + 1, _, rfl, by omega, by rw [HKW.out], HO4.out, hb4, kS4⟩
      case measure => rw [HKW.out]; simp [intOf]; omega
    · obtain rfl : k = parts.length := by omega
      have hkI : ¬ (parts.length : Int) < (parts.length : Int) := by omega
      obtain ⟨c0, c1, c2⟩ := rec3 kS
      have hO2 : wr.ownsRow w.heap.size 5 1 bv (catTo (S0 ++ parts.flatten) path 0).length ((catTo (S0 ++ parts.flatten) path 0).map (Value.int .u8)) := by
        rw [catTo_zero, ← catTo_all]; exact hO
      have HLM := Lib.hid (show (S0 ++ parts.flatten).length + path.flatten.length ≤ 100000000000000 by have := HLL.out; rw [List.length_append]; omega)
      generalize S0 ++ parts.flatten = S2 at *
      have HKS := Lib.hid kS
      generalize wr = wz at *
      clear hO kS hlt hk
      go_wp2
      go_loopw [5, 28] (fun b i wr => ∃ (k : Nat) (bv : Value), bv = b ∧ k ≤ path.length ∧ i = .int .i64 k ∧ wr.ownsRow w.heap.size 5 1 bv (catTo S2 path k).length ((catTo S2 path k).map (Value.int .u8)) ∧ Below w.heap.size w wr) (fun _ i _ => path.length - (intOf i).toNat)
      case atStart => exact ⟨0, _, rfl, by omega, rfl, hO2, hbr⟩
      case round =>
        clear hO2 hbr c0 c1 c2
        obtain ⟨k, bv, rfl, hk, rfl, hO, hbr⟩ := hrel
        by_cases hlt : k < path.length
        · obtain ⟨b1, o1, rfl, hb1, u1, k1, t1⟩ := (HG2.out wr hbr).at hlt
          have hkI2 : (k : Int) < (path.length : Int) := by omega
          have HSU := Lib.hid (catTo_succ S2 path k hlt)
          have HCL := Lib.hid (show (catTo S2 path k).length + (path.getD k []).length ≤ 100000000000000 by
            have h1 := catTo_len S2 path (k + 1)
            have h2 := HLM.out
            rw [catTo_succ S2 path k hlt, List.length_append] at h1
            omega)
          have HKW := Lib.hid (show wrap64 ((k : Int) + 1) = ((k + 1 : Nat) : Int) by have := HQL.out; unfold wrap64; omega)
          generalize path.getD k [] = P at *
          generalize catTo S2 path k = S1 at *
          obtain ⟨xa, xn, xc, rfl⟩ := t1.val
          clear hk
          go_wp2_with (at_builtin; refine wpList_append_sl rfl _ _ 25 rfl w.heap.size 5 i0 (.int .u8 0) 1 Tryd.underlying25 hi hz0 hz1 hz2 rfl _ S1.length (S1.map (Value.int .u8)) rfl hO (.slice xa xn xc) (P.map (Value.int .u8)) rfl t1 (one8 _) (by have h1 := HCL.out; rw [List.length_map]; unfold maxLen; omega) (by have h1 := HCL.out; rw [List.length_map]; omega) hbr.size ?_)
          intro xv w4 hown4 hg4
          have hb4 := below_grown hbr hO (Nat.le_refl _) hbr.size hg4
          rw [← List.length_append, ← List.map_append, ← HSU.out] at hown4
          have HO4 := Lib.hid hown4
          clear hO hbr hown4 hg4
          go_wp2
          go_roundw
          case rel => exact ⟨k + 1, _, rfl, by omega, by rw [HKW.out], HO4.out, hb4⟩
          case measure => rw [HKW.out]; simp [intOf]; omega
        · obtain rfl : k = path.length := by omega
          have hkI2 : ¬ (path.length : Int) < (path.length : Int) := by omega
          have HF := Lib.hid (show wr.ownsRow w.heap.size 5 1 bv (sigTo bs idx parts path 2).length ((sigTo bs idx parts path 2).map (Value.int .u8)) by
            rw [HS0.out, ← catTo_all S2 path]; exact hO)
          clear hO
          go_wp2
          go_ret
          exact ⟨_, rfl, HF.out, hbr⟩

end Go.Proofs.YtjhannlioddkkaaDoor
