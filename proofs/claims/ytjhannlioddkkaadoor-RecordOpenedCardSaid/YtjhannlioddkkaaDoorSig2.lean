
/- Signed records: Seal. -/
import Derived.Test.YtjhannlioddkkaaDoorSig1
import Derived.Test.YtjhannlioddkkaaDoorRecBk
import Derived.Deep.RegionHeld3
import Derived.Deep.Cut
namespace Go.Proofs.YtjhannlioddkkaaDoor
open Go.RowKit
set_option linter.unusedVariables false

/-- The value is a signed record. -/
def SgnV (w : World) (v : Value) (ep ti : Int) (tr : List Int) (co : Int) (li : List Int) (ln : List (List Int)) (idx : Int) (parts path : List (List Int)) : Prop :=
  ∃ vt vl vk vp vq, v = .agg #[.int .i64 ep, .int .i64 ti, vt, .int .i64 co, vl, vk, .int .i64 idx, vp, vq] ∧ RecV w (.agg #[.int .i64 ep, .int .i64 ti, vt, .int .i64 co, vl, vk]) ep ti tr co li ln ∧ SigV w (.agg #[.int .i64 idx, vp, vq]) idx parts path
theorem SgnV.below {w w' : World} {v : Value} {ep ti co idx : Int} {tr li : List Int} {ln parts path : List (List Int)} (h : SgnV w v ep ti tr co li ln idx parts path) {B : Nat} (hb : Below B w w') (hB : w.heap.size ≤ B) : SgnV w' v ep ti tr co li ln idx parts path := by
  obtain ⟨vt, vl, vk, vp, vq, rfl, h1, h2⟩ := h
  exact ⟨vt, vl, vk, vp, vq, rfl, h1.below hb hB, h2.below hb hB⟩
theorem rec9 {w : World} {g : Nat} {t : TypeId} {x0 x1 x2 x3 x4 x5 x6 x7 x8 : Value} (k : Blk w g t #[x0, x1, x2, x3, x4, x5, x6, x7, x8]) :
    (w.cell? ⟨g, 0, none⟩ = some x0 ∧ w.cell? ⟨g, 1, none⟩ = some x1 ∧ w.cell? ⟨g, 2, none⟩ = some x2 ∧ w.cell? ⟨g, 3, none⟩ = some x3 ∧ w.cell? ⟨g, 4, none⟩ = some x4 ∧ w.cell? ⟨g, 5, none⟩ = some x5) ∧ w.cell? ⟨g, 6, none⟩ = some x6 ∧ w.cell? ⟨g, 7, none⟩ = some x7 ∧ w.cell? ⟨g, 8, none⟩ = some x8 := ⟨⟨k.cell 0, k.cell 1, k.cell 2, k.cell 3, k.cell 4, k.cell 5⟩, k.cell 6, k.cell 7, k.cell 8⟩

def wholeI (size idx : Int) (parts path : List (List Int)) : Prop :=
  (0 ≤ idx ∧ idx ≤ 255) ∧ (parts.length : Int) = wrap64 (wrap64 (4 * size) + 5) ∧ path.length ≤ 8 ∧ (∀ p ∈ parts, (p.length : Int) = size) ∧ ∀ p ∈ path, (p.length : Int) = size
instance (size idx : Int) (parts path : List (List Int)) : Decidable (wholeI size idx parts path) := by unfold wholeI; infer_instance
def sealOk (size ep ti : Int) (tr : List Int) (co : Int) (li : List Int) (ln : List (List Int)) (idx : Int) (parts path : List (List Int)) : Prop := canI size ep ti tr co li ln ∧ wholeI size idx parts path
instance (size ep ti co idx : Int) (tr li : List Int) (ln parts path : List (List Int)) : Decidable (sealOk size ep ti tr co li ln idx parts path) := by unfold sealOk; infer_instance
def codeS (size ep ti : Int) (tr : List Int) (co : Int) (li : List Int) (ln : List (List Int)) (idx : Int) (parts path : List (List Int)) : Int := if sealOk size ep ti tr co li ln idx parts path then 0 else 1
def sealI (ep ti : Int) (tr : List Int) (co : Int) (li : List Int) (ln : List (List Int)) (idx : Int) (parts path : List (List Int)) : List Int := sigTo (bytesI (encI ep ti tr co li ln)) idx parts path 2
def contS (size ep ti : Int) (tr : List Int) (co : Int) (li : List Int) (ln : List (List Int)) (idx : Int) (parts path : List (List Int)) : List Int := if sealOk size ep ti tr co li ln idx parts path then sealI ep ti tr co li ln idx parts path else []

theorem flat_size (n : Nat) : ∀ (l : List (List Int)), (∀ p ∈ l, p.length = n) → l.flatten.length = l.length * n
  | [], _ => by simp
  | p :: l, h => by
    rw [List.flatten_cons, List.length_append, h p (by simp), flat_size n l (fun q hq => h q (by simp [hq])), List.length_cons, Nat.add_mul]; omega
theorem four_size {size : Int} (h : 1 ≤ size ∧ size ≤ 32) : wrap64 (wrap64 (4 * size) + 5) = 4 * size + 5 := by
  unfold wrap64; omega
theorem whole_flat {size idx : Int} {parts path : List (List Int)} (hs : 1 ≤ size ∧ size ≤ 32) (h : wholeI size idx parts path) : parts.flatten.length ≤ 5000 ∧ path.flatten.length ≤ 256 ∧ parts.flatten.length = (4 * size.toNat + 5) * size.toNat ∧ path.flatten.length = path.length * size.toNat := by
  obtain ⟨_, h2, h3, h4, h5⟩ := h
  rw [four_size hs] at h2
  obtain ⟨n, rfl⟩ : ∃ n : Nat, size = n := ⟨size.toNat, by omega⟩
  have e1 := flat_size n parts (fun p hp => by have := h4 p hp; omega)
  have e2 := flat_size n path (fun p hp => by have := h5 p hp; omega)
  have hn : n ≤ 32 := by omega
  have hp : parts.length = 4 * n + 5 := by omega
  rw [hp] at e1
  have b1 : (4 * n + 5) * n ≤ 133 * 32 := Nat.mul_le_mul (by omega) hn
  have b2 : path.length * n ≤ 8 * 32 := Nat.mul_le_mul h3 hn
  simp only [Int.toNat_natCast]
  exact ⟨by omega, by omega, e1, e2⟩
theorem seal_len {size ep ti co idx : Int} {tr li : List Int} {ln parts path : List (List Int)} (h : sealOk size ep ti tr co li ln idx parts path) : (sealI ep ti tr co li ln idx parts path).length ≤ 7000 := by
  obtain ⟨h1, h2⟩ := h
  have b1 := enc_short h1
  have b2 := bytesI_len _ (show (encI ep ti tr co li ln).length ≤ 4611686018427387904 by omega)
  have b3 := uintN_len idx.toNat (by have := h2.1; omega)
  have b4 := whole_flat (by have := h1.1; omega) h2
  unfold sealI sigTo
  simp only [List.length_append]
  omega

theorem cbytes_e0 (u : Value) (xs : List Int) (w : World) (hn : xs.length ≤ 100000000000000) (hu : Sl w u (xs.map (Value.int .u8))) :
    Calls Tryd.prog 59 #[.slice none 0 0, u] w fun e w' => ∃ v', e = .returned v' ∧ Sl w' v' ((bytesI xs).map (Value.int .u8)) ∧ Below w.heap.size w w' :=
  (cbytes_any (.slice none 0 0) [] u xs w (by simpa using hn) (Sl.nil _) hu).mono fun e w' ⟨v', he, ho, hb⟩ => ⟨v', he, by simpa using Sl.of_owns ho, hb⟩

set_option maxRecDepth 100000 in
set_option maxHeartbeats 8000000 in
theorem seal_any (size ep ti : Int) (tr : List Int) (co : Int) (li : List Int) (ln : List (List Int)) (idx : Int) (parts path : List (List Int)) (v : Value) (w : World) (hz0 : -9223372036854775808 ≤ size) (hz1 : size ≤ 9223372036854775807) (hg : SgnV w v ep ti tr co li ln idx parts path) (hT : TzTab w) :
    Calls Tryd.prog 17 #[.int .i64 size, v] w fun e w' => ∃ x, e = .returned (.tuple #[x, .int .i64 (codeS size ep ti tr co li ln idx parts path)]) ∧ Sl w' x ((contS size ep ti tr co li ln idx parts path).map (Value.int .u8)) ∧ Below w.heap.size w w' := by
  obtain ⟨vt, vl, vk, vp, vq, rfl, hr, hgs⟩ := hg
  obtain ⟨ta, tn, tc, la, lc, lcc, ka, kc, he⟩ := hr.val
  cases he
  obtain ⟨pa, pc, qa, qc, he⟩ := hgs.val
  cases he
  have hb1 : Below w.heap.size w (w.alloc (.cells #[.int .i64 ep, .int .i64 ti, .slice ta tn tc, .int .i64 co, .slice la lc lcc, .slice ka ln.length kc, .int .i64 idx, .slice pa parts.length pc, .slice qa path.length qc] 37)) := (Below.refl _ _).alloc (Nat.le_refl _) _
  have kR := Blk.new w 37 #[.int .i64 ep, .int .i64 ti, .slice ta tn tc, .int .i64 co, .slice la lc lcc, .slice ka ln.length kc, .int .i64 idx, .slice pa parts.length pc, .slice qa path.length qc]
  have HE := Lib.hid (enc_any size ep ti tr co li ln _ (w.alloc (.cells #[.int .i64 ep, .int .i64 ti, .slice ta tn tc, .int .i64 co, .slice la lc lcc, .slice ka ln.length kc, .int .i64 idx, .slice pa parts.length pc, .slice qa path.length qc] 37)) hz0 hz1 (hr.below hb1 (Nat.le_refl _)) (hT.below hb1))
  have HGS := Lib.hid (fun w' (h : Below w.heap.size w w') => hgs.below h (Nat.le_refl _))
  have HPL := Lib.hid (show parts.length ≤ 9223372036854775807 by obtain ⟨_, _, e, h, _⟩ := hgs; cases e; exact Nat.le_trans h.shape.choose_spec.choose_spec.2.1 h.shape.choose_spec.choose_spec.2.2)
  have HDS := Lib.hid (show codeS size ep ti tr co li ln idx parts path = (if sealOk size ep ti tr co li ln idx parts path then 0 else 1) ∧ contS size ep ti tr co li ln idx parts path = (if sealOk size ep ti tr co li ln idx parts path then sealI ep ti tr co li ln idx parts path else []) from ⟨rfl, rfl⟩)
  generalize codeS size ep ti tr co li ln idx parts path = CC at *
  generalize contS size ep ti tr co li ln idx parts path = CB at *
  clear hr hgs hT
  have HSC : Hid (sealOk size ep ti tr co li ln idx parts path ↔ (canI size ep ti tr co li ln ∧ wholeI size idx parts path)) := ⟨fun h => h, fun h => h⟩
  have HWH : Hid (wholeI size idx parts path ↔ ((0 ≤ idx ∧ idx ≤ 255) ∧ (parts.length : Int) = wrap64 (wrap64 (4 * size) + 5) ∧ path.length ≤ 8 ∧ (∀ p ∈ parts, (p.length : Int) = size) ∧ ∀ p ∈ path, (p.length : Int) = size)) := ⟨fun h => h, fun h => h⟩
  by_cases hC : canI size ep ti tr co li ln
  · rw [show codeE size ep ti tr co li ln = 0 from by unfold codeE; rw [if_pos hC], show contE size ep ti tr co li ln = encI ep ti tr co li ln from by unfold contE; rw [if_pos hC]] at HE
    have HCC := Lib.hid hC
    clear hC
    go_enter Tryd.func17, Tryd.ntmps17
    go_wp2_with fail
    refine HE.out.mono ?_
    rintro e w2 ⟨x2, rfl, hx2, hb2⟩
    have hbr := below_trans2 hb1 hb2
    obtain ⟨-, c6, c7, c8⟩ := rec9 (kR.belowS hb2)
    have hbA : Below w2.heap.size w2 (w2.alloc (.cells #[.int .i64 idx, .slice pa parts.length pc, .slice qa path.length qc] 24)) := (Below.refl _ _).alloc (Nat.le_refl _) _
    have kA := Blk.new w2 24 #[.int .i64 idx, .slice pa parts.length pc, .slice qa path.length qc]
    have hx2 := hx2.below hbA (Nat.le_refl _)
    have hbr := below_trans2 hbr hbA
    clear hb1 hb2 HE
    go_upto_region 3 with (fail)
    generalize (w2.alloc (.cells #[.int .i64 idx, .slice pa parts.length pc, .slice qa path.length qc] 24)) = w3 at *
    clear c6 c7 c8 hbA
    obtain ⟨d0, d1, d2⟩ := rec3 kA
    have HSG := Lib.hid (HGS.out w3 hbr)
    have HBR := Lib.hid hbr
    have HW := Lib.hid (within_any idx 255 w3)
    have HS1 := Lib.hid (rsized_any size (.slice pa parts.length pc) parts w3 HSG.out.parts.1)
    have HS2 := Lib.hid (rsized_any size (.slice qa path.length qc) path w3 HSG.out.parts.2)
    clear hbr
    by_cases h0 : 0 ≤ idx ∧ idx ≤ 255
    rotate_left
    · skip
      rw [decide_eq_false h0] at HW
      have HNO := Lib.hid (show ¬ sealOk size ep ti tr co li ln idx parts path from fun h => h0 (HWH.out.1 h.2).1)
      clear h0
      go_wp2_with fail
      refine HW.out.mono ?_
      rintro e w4 ⟨rfl, rfl⟩
      go_wp2
      go_ret2
      rw [HDS.out.1, HDS.out.2, if_neg HNO.out, if_neg HNO.out]
      exact ⟨_, rfl, Sl.nil _, HBR.out⟩
    rw [decide_eq_true h0] at HW
    by_cases h1 : (parts.length : Int) = wrap64 (wrap64 (4 * size) + 5)
    rotate_left
    · skip
      have u1 : ((parts.length : Int) == wrap64 (wrap64 (4 * size) + 5)) = false := by simp [h1]
      have HNO := Lib.hid (show ¬ sealOk size ep ti tr co li ln idx parts path from fun h => h1 (HWH.out.1 h.2).2.1)
      clear h0 h1
      go_wp2_with fail
      refine HW.out.mono ?_
      rintro e w4 ⟨rfl, rfl⟩
      go_wp2
      go_ret2
      rw [HDS.out.1, HDS.out.2, if_neg HNO.out, if_neg HNO.out]
      exact ⟨_, rfl, Sl.nil _, HBR.out⟩
    have u1 : ((parts.length : Int) == wrap64 (wrap64 (4 * size) + 5)) = true := by simp [h1]
    by_cases h2 : path.length ≤ 8
    rotate_left
    · skip
      have u2 : ¬ (path.length : Int) ≤ 8 := by omega
      have HNO := Lib.hid (show ¬ sealOk size ep ti tr co li ln idx parts path from fun h => h2 (HWH.out.1 h.2).2.2.1)
      clear h0 h1 h2
      go_wp2_with fail
      refine HW.out.mono ?_
      rintro e w4 ⟨rfl, rfl⟩
      go_wp2
      go_ret2
      rw [HDS.out.1, HDS.out.2, if_neg HNO.out, if_neg HNO.out]
      exact ⟨_, rfl, Sl.nil _, HBR.out⟩
    have u2 : (path.length : Int) ≤ 8 := by omega
    by_cases h3 : ∀ p ∈ parts, (p.length : Int) = size
    rotate_left
    · skip
      rw [decide_eq_false h3] at HS1
      have HNO := Lib.hid (show ¬ sealOk size ep ti tr co li ln idx parts path from fun h => h3 (HWH.out.1 h.2).2.2.2.1)
      clear h0 h1 h2 h3
      go_wp2_with fail
      refine HW.out.mono ?_
      rintro e w4 ⟨rfl, rfl⟩
      go_wp2_with fail
      refine HS1.out.mono ?_
      rintro e w4 ⟨rfl, rfl⟩
      go_wp2
      go_ret2
      rw [HDS.out.1, HDS.out.2, if_neg HNO.out, if_neg HNO.out]
      exact ⟨_, rfl, Sl.nil _, HBR.out⟩
    rw [decide_eq_true h3] at HS1
    by_cases h4 : ∀ p ∈ path, (p.length : Int) = size
    rotate_left
    · skip
      rw [decide_eq_false h4] at HS2
      have HNO := Lib.hid (show ¬ sealOk size ep ti tr co li ln idx parts path from fun h => h4 (HWH.out.1 h.2).2.2.2.2)
      clear h0 h1 h2 h3 h4
      go_wp2_with fail
      refine HW.out.mono ?_
      rintro e w4 ⟨rfl, rfl⟩
      go_wp2_with fail
      refine HS1.out.mono ?_
      rintro e w4 ⟨rfl, rfl⟩
      go_wp2_with fail
      refine HS2.out.mono ?_
      rintro e w4 ⟨rfl, rfl⟩
      go_wp2
      go_ret2
      rw [HDS.out.1, HDS.out.2, if_neg HNO.out, if_neg HNO.out]
      exact ⟨_, rfl, Sl.nil _, HBR.out⟩
    rw [decide_eq_true h4] at HS2
    have HOK := Lib.hid (show sealOk size ep ti tr co li ln idx parts path from ⟨HCC.out, HWH.out.2 ⟨h0, h1, h2, h3, h4⟩⟩)
    have hi0 := h0
    clear h0 h1 h2 h3 h4
    go_wp2_with fail
    refine HW.out.mono ?_
    rintro e w4 ⟨rfl, rfl⟩
    go_wp2_with fail
    refine HS1.out.mono ?_
    rintro e w4 ⟨rfl, rfl⟩
    go_wp2_with fail
    refine HS2.out.mono ?_
    rintro e w4 ⟨rfl, rfl⟩
    go_wp2
    have HK := Lib.hid (fun w' (h : Below w3.heap.size w3 w') => rec3 (kA.belowS h))
    have hG := Lib.hid (HK.out _ (Below.refl _ _))
    have HSL := Lib.hid (seal_len HOK.out)
    have HEL := Lib.hid (enc_short HOK.out.1)
    have HSI := Lib.hid (show sealI ep ti tr co li ln idx parts path = sigTo (bytesI (encI ep ti tr co li ln)) idx parts path 2 from rfl)
    generalize encI ep ti tr co li ln = en at *
    have HC1 := Lib.hid (fun w' (h : Below w3.heap.size w3 w') => cbytes_e0 x2 en w' (by have := HEL.out; omega) (hx2.below h (Nat.le_refl _)))
    have HC2 := Lib.hid (fun v w' (h : Below w3.heap.size w3 w') (hv : Sl w' v ((bytesI en).map (Value.int .u8))) => swrite_any v (bytesI en) _ idx parts path w' hi0.1 (by have := hi0.2; omega) (by have h := HSL.out; rw [HSI.out] at h; omega) hv (HSG.out.below h (Nat.le_refl _)))
    clear hx2 hi0 d0 d1 d2 kA
    go_region_held3 (fun w' => w'.cell? ⟨w2.heap.size, 0, none⟩ = some (.int .i64 idx) ∧ w'.cell? ⟨w2.heap.size, 1, none⟩ = some (.slice pa parts.length pc) ∧ w'.cell? ⟨w2.heap.size, 2, none⟩ = some (.slice qa path.length qc)) (exact hG.out) (first | (go_at_call 14; refine (HC2.out v5 _ hb5 hs5).mono ?_; rintro e w6 ⟨v6, rfl, ho6, hb6⟩; have hs6 := Sl.of_owns ho6; have hb6 := below_trans2 hb5 hb6; have hG := Lib.hid (HK.out _ hb6)) | (go_at_call 59; refine (HC1.out _ (by first | exact Below.refl _ _ | exact (Below.refl _ _).drew)).mono ?_; rintro e w5 ⟨v5, rfl, hs5, hb5⟩; have hb5 : Below w3.heap.size w3 w5 := ⟨hb5.os, hb5.tape, hb5.output, hb5.size, hb5.block⟩; have hG := Lib.hid (HK.out _ hb5)))
    all_goals
      have hbz := below_trans2 HBR.out hb6
      go_wp2
      go_ret2
      rw [HDS.out.1, HDS.out.2, if_pos HOK.out, if_pos HOK.out, HSI.out]
      exact ⟨_, rfl, hs6, hbz⟩
  · rw [show codeE size ep ti tr co li ln = 1 from by unfold codeE; rw [if_neg hC], show contE size ep ti tr co li ln = [] from by unfold contE; rw [if_neg hC]] at HE
    go_enter Tryd.func17, Tryd.ntmps17
    go_wp2_with fail
    refine HE.out.mono ?_
    rintro e w2 ⟨x2, rfl, hx2, hb2⟩
    have hbr := below_trans2 hb1 hb2
    obtain ⟨-, c6, c7, c8⟩ := rec9 (kR.belowS hb2)
    have hbA : Below w2.heap.size w2 (w2.alloc (.cells #[.int .i64 idx, .slice pa parts.length pc, .slice qa path.length qc] 24)) := (Below.refl _ _).alloc (Nat.le_refl _) _
    have kA := Blk.new w2 24 #[.int .i64 idx, .slice pa parts.length pc, .slice qa path.length qc]
    have hx2 := hx2.below hbA (Nat.le_refl _)
    have hbr := below_trans2 hbr hbA
    clear hb1 hb2 HE
    go_upto_region 3 with (fail)
    generalize (w2.alloc (.cells #[.int .i64 idx, .slice pa parts.length pc, .slice qa path.length qc] 24)) = w3 at *
    clear c6 c7 c8 hbA
    obtain ⟨d0, d1, d2⟩ := rec3 kA
    have HSG := Lib.hid (HGS.out w3 hbr)
    have HBR := Lib.hid hbr
    have HW := Lib.hid (within_any idx 255 w3)
    have HS1 := Lib.hid (rsized_any size (.slice pa parts.length pc) parts w3 HSG.out.parts.1)
    have HS2 := Lib.hid (rsized_any size (.slice qa path.length qc) path w3 HSG.out.parts.2)
    clear hbr
    by_cases h0 : 0 ≤ idx ∧ idx ≤ 255
    rotate_left
    · skip
      rw [decide_eq_false h0] at HW
      have HNO := Lib.hid (show ¬ sealOk size ep ti tr co li ln idx parts path from fun h => h0 (HWH.out.1 h.2).1)
      clear h0
      go_wp2_with fail
      refine HW.out.mono ?_
      rintro e w4 ⟨rfl, rfl⟩
      go_wp2
      go_ret2
      rw [HDS.out.1, HDS.out.2, if_neg HNO.out, if_neg HNO.out]
      exact ⟨_, rfl, Sl.nil _, HBR.out⟩
    rw [decide_eq_true h0] at HW
    by_cases h1 : (parts.length : Int) = wrap64 (wrap64 (4 * size) + 5)
    rotate_left
    · skip
      have u1 : ((parts.length : Int) == wrap64 (wrap64 (4 * size) + 5)) = false := by simp [h1]
      have HNO := Lib.hid (show ¬ sealOk size ep ti tr co li ln idx parts path from fun h => h1 (HWH.out.1 h.2).2.1)
      clear h0 h1
      go_wp2_with fail
      refine HW.out.mono ?_
      rintro e w4 ⟨rfl, rfl⟩
      go_wp2
      go_ret2
      rw [HDS.out.1, HDS.out.2, if_neg HNO.out, if_neg HNO.out]
      exact ⟨_, rfl, Sl.nil _, HBR.out⟩
    have u1 : ((parts.length : Int) == wrap64 (wrap64 (4 * size) + 5)) = true := by simp [h1]
    by_cases h2 : path.length ≤ 8
    rotate_left
    · skip
      have u2 : ¬ (path.length : Int) ≤ 8 := by omega
      have HNO := Lib.hid (show ¬ sealOk size ep ti tr co li ln idx parts path from fun h => h2 (HWH.out.1 h.2).2.2.1)
      clear h0 h1 h2
      go_wp2_with fail
      refine HW.out.mono ?_
      rintro e w4 ⟨rfl, rfl⟩
      go_wp2
      go_ret2
      rw [HDS.out.1, HDS.out.2, if_neg HNO.out, if_neg HNO.out]
      exact ⟨_, rfl, Sl.nil _, HBR.out⟩
    have u2 : (path.length : Int) ≤ 8 := by omega
    by_cases h3 : ∀ p ∈ parts, (p.length : Int) = size
    rotate_left
    · skip
      rw [decide_eq_false h3] at HS1
      have HNO := Lib.hid (show ¬ sealOk size ep ti tr co li ln idx parts path from fun h => h3 (HWH.out.1 h.2).2.2.2.1)
      clear h0 h1 h2 h3
      go_wp2_with fail
      refine HW.out.mono ?_
      rintro e w4 ⟨rfl, rfl⟩
      go_wp2_with fail
      refine HS1.out.mono ?_
      rintro e w4 ⟨rfl, rfl⟩
      go_wp2
      go_ret2
      rw [HDS.out.1, HDS.out.2, if_neg HNO.out, if_neg HNO.out]
      exact ⟨_, rfl, Sl.nil _, HBR.out⟩
    rw [decide_eq_true h3] at HS1
    by_cases h4 : ∀ p ∈ path, (p.length : Int) = size
    rotate_left
    · skip
      rw [decide_eq_false h4] at HS2
      have HNO := Lib.hid (show ¬ sealOk size ep ti tr co li ln idx parts path from fun h => h4 (HWH.out.1 h.2).2.2.2.2)
      clear h0 h1 h2 h3 h4
      go_wp2_with fail
      refine HW.out.mono ?_
      rintro e w4 ⟨rfl, rfl⟩
      go_wp2_with fail
      refine HS1.out.mono ?_
      rintro e w4 ⟨rfl, rfl⟩
      go_wp2_with fail
      refine HS2.out.mono ?_
      rintro e w4 ⟨rfl, rfl⟩
      go_wp2
      go_ret2
      rw [HDS.out.1, HDS.out.2, if_neg HNO.out, if_neg HNO.out]
      exact ⟨_, rfl, Sl.nil _, HBR.out⟩
    rw [decide_eq_true h4] at HS2
    have HNO := Lib.hid (show ¬ sealOk size ep ti tr co li ln idx parts path from fun h => hC h.1)
    clear h0 h1 h2 h3 h4
    go_wp2_with fail
    refine HW.out.mono ?_
    rintro e w4 ⟨rfl, rfl⟩
    go_wp2_with fail
    refine HS1.out.mono ?_
    rintro e w4 ⟨rfl, rfl⟩
    go_wp2_with fail
    refine HS2.out.mono ?_
    rintro e w4 ⟨rfl, rfl⟩
    go_wp2
    go_ret2
    rw [HDS.out.1, HDS.out.2, if_neg HNO.out, if_neg HNO.out]
    exact ⟨_, rfl, Sl.nil _, HBR.out⟩

end Go.Proofs.YtjhannlioddkkaaDoor
