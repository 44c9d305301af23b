
/- Records: awake, and the law that what was written is read. The law that a record that was written is read, and bytes that are one are written as they were. Signed records: Seal. Plain laws of signed records: what was sealed is read back; bytes that are a signature are those that it is written as. Conditions: none. Signatures as bytes: the reference's Write. Conditions: none. The codec: any number put behind bytes, the program's and the reference's. Conditions: none. Signatures as bytes: both Writes of a signature of any number. Conditions: none. Signatures: Same of the reference, of two of one content. The walks of what may be, of a chain's beginning, of how many chains there are; the program's and the reference's. The walk of the reference's Digits. The walks of Sign, the program's and the reference's. The walks of end, Key, the program's; Key of the reference. The walks of a search for a text of another length. -/
import Derived.Test.YtjhannlioddkkaaDoorMb1
import Derived.Test.YtjhannlioddkkaaDoorBytes
import Derived.Test.YtjhannlioddkkaaDoorSig1
import Derived.Deep.RegionHeld3
import Derived.Deep.Cut
import Derived.Test.YtjhannlioddkkaaDoorCodecR
import Derived.Deep.QuietTactic
import Derived.BigQuiet
import Derived.Test.YtjhannlioddkkaaDoorChain
import Derived.Test.YtjhannlioddkkaaDoorDigits
import Derived.Test.YtjhannlioddkkaaDoorChainR
import Derived.Test.YtjhannlioddkkaaDoorOwnT
import Derived.Test.YtjhannlioddkkaaDoorWotsP
import Derived.StillTailTactics
import Derived.Test.YtjhannlioddkkaaDoorTextA
import Derived.Test.YtjhannlioddkkaaDoorBlk
namespace Go.Proofs.YtjhannlioddkkaaDoor
open Go.RowKit
set_option linter.unusedVariables false

theorem can1 : canI 1 0 0 [1] 0 [2] [] := by decide
theorem enc1 : encI 0 0 [1] 0 [2] [] = [0, 0, 1, 1, 1, 0, 1, 1, 2] := by decide

set_option maxHeartbeats 400000 in
theorem awake13_any (w : World) (hT : TzTab w) : Calls Tryd.prog 19 #[] w fun e w' => e = .returned (.bool true) ∧ Below w.heap.size w w' := by
  have hB : IsB [0, 0, 1, 1, 1, 0, 1, 1, 2] := by intro n hn; simp at hn; omega
  have hb1 : Below w.heap.size w (w.alloc (.cells #[.int .u8 1] 5)) := (Below.refl _ _).alloc (Nat.le_refl _) _
  have hb2 : Below w.heap.size w ((w.alloc (.cells #[.int .u8 1] 5)).alloc (.cells #[.int .u8 2] 5)) := hb1.alloc hb1.size _
  have hs1 : Sl ((w.alloc (.cells #[.int .u8 1] 5)).alloc (.cells #[.int .u8 2] 5)) (.slice (some ⟨w.heap.size, 0, none⟩) 1 1) ([1].map (Value.int .u8)) := (Sl.lit w #[.int .u8 1] 5 (by simp [maxLen])).below ((Below.refl _ _).alloc (Nat.le_refl _) _) (Nat.le_refl _)
  have hs2 : Sl ((w.alloc (.cells #[.int .u8 1] 5)).alloc (.cells #[.int .u8 2] 5)) (.slice (some ⟨w.heap.size + 1, 0, none⟩) 1 1) ([2].map (Value.int .u8)) := by
    have := Sl.lit (w.alloc (.cells #[.int .u8 1] 5)) #[.int .u8 2] 5 (by simp [maxLen])
    simpa using this
  have hR : RecV ((w.alloc (.cells #[.int .u8 1] 5)).alloc (.cells #[.int .u8 2] 5)) (.agg #[.int .i64 0, .int .i64 0, .slice (some ⟨w.heap.size, 0, none⟩) 1 1, .int .i64 0, .slice (some ⟨w.heap.size + 1, 0, none⟩) 1 1, .slice none 0 0]) 0 0 [1] 0 [2] [] := ⟨_, _, _, rfl, hs1, hs2, ⟨[], Sl.nil _, rfl, fun i u bs hu _ => by simp at hu⟩⟩
  have HE := Lib.hid (enc_any 1 0 0 [1] 0 [2] [] _ _ (by decide) (by decide) hR (hT.below hb2))
  rw [show codeE 1 0 0 [1] 0 [2] [] = 0 from by unfold codeE; rw [if_pos can1], show contE 1 0 0 [1] 0 [2] [] = [0, 0, 1, 1, 1, 0, 1, 1, 2] from by unfold contE; rw [if_pos can1, enc1]] at HE
  clear hR hs1 hs2 hT hb1
  go_enter Tryd.func19, Tryd.ntmps19
  go_wp2_with fail
  generalize ((w.alloc (.cells #[.int .u8 1] 5)).alloc (.cells #[.int .u8 2] 5)) = w1 at *
  refine HE.out.mono ?_
  rintro e w2 ⟨x, rfl, hs2, hb3⟩
  have hb4 := below_trans2 hb2 hb3
  clear hb2 hb3 HE
  go_wp2_with fail
  refine (bytesEq_same _ _ [0, 0, 1, 1, 1, 0, 1, 1, 2] _ (hs2.below ((Below.refl _ _).alloc (Nat.le_refl _) _) (Nat.le_refl _)) (Sl.lit w2 #[.int .u8 0, .int .u8 0, .int .u8 1, .int .u8 1, .int .u8 1, .int .u8 0, .int .u8 1, .int .u8 1, .int .u8 2] _ (by simp [maxLen])) hB).mono ?_
  rintro e w3 ⟨rfl, rfl⟩
  go_wp2
  go_ret
  exact ⟨rfl, hb4.alloc hb4.size _⟩

end Go.Proofs.YtjhannlioddkkaaDoor

namespace Go.Proofs.YtjhannlioddkkaaDoor
open Go.RowKit
set_option linter.unusedVariables false

theorem enc_short {size ep ti co : Int} {tr li : List Int} {ln : List (List Int)} (h : canI size ep ti tr co li ln) : (encI ep ti tr co li ln).length ≤ 1000 := by
  rw [← encTo_all]; exact encTo_len h _

theorem RecV.val {w : World} {v : Value} {ep ti co : Int} {tr li : List Int} {ln : List (List Int)} (h : RecV w v ep ti tr co li ln) : ∃ ta tn tc la lc lcc ka kc, v = .agg #[.int .i64 ep, .int .i64 ti, .slice ta tn tc, .int .i64 co, .slice la lc lcc, .slice ka ln.length kc] := by
  obtain ⟨vt, vl, vk, rfl, h1, h2, h3⟩ := h
  obtain ⟨_, _, _, rfl⟩ := h1.val
  obtain ⟨_, _, _, rfl⟩ := h2.val
  obtain ⟨_, _, rfl, _, _⟩ := h3.shape
  exact ⟨_, _, _, _, _, _, _, _, rfl⟩

end Go.Proofs.YtjhannlioddkkaaDoor

namespace Go.Proofs.YtjhannlioddkkaaDoor
open Go.RowKit
set_option linter.unusedVariables false

/-- The value is a signed record. -/
def SgnV (w : World) (v : Value) (ep ti : Int) (tr : List Int) (co : Int) (li : List Int) (ln : List (List Int)) (idx : Int) (parts path : List (List Int)) : Prop :=
  ∃ vt vl vk vp vq, v = .agg #[.int .i64 ep, .int .i64 ti, vt, .int .i64 co, vl, vk, .int .i64 idx, vp, vq] ∧ RecV w (.agg #[.int .i64 ep, .int .i64 ti, vt, .int .i64 co, vl, vk]) ep ti tr co li ln ∧ SigV w (.agg #[.int .i64 idx, vp, vq]) idx parts path
theorem SgnV.below {w w' : World} {v : Value} {ep ti co idx : Int} {tr li : List Int} {ln parts path : List (List Int)} (h : SgnV w v ep ti tr co li ln idx parts path) {B : Nat} (hb : Below B w w') (hB : w.heap.size ≤ B) : SgnV w' v ep ti tr co li ln idx parts path := by
  obtain ⟨vt, vl, vk, vp, vq, rfl, h1, h2⟩ := h
  exact ⟨vt, vl, vk, vp, vq, rfl, h1.below hb hB, h2.below hb hB⟩
theorem rec9 {w : World} {g : Nat} {t : TypeId} {x0 x1 x2 x3 x4 x5 x6 x7 x8 : Value} (k : Blk w g t #[x0, x1, x2, x3, x4, x5, x6, x7, x8]) :
    (w.cell? ⟨g, 0, none⟩ = some x0 ∧ w.cell? ⟨g, 1, none⟩ = some x1 ∧ w.cell? ⟨g, 2, none⟩ = some x2 ∧ w.cell? ⟨g, 3, none⟩ = some x3 ∧ w.cell? ⟨g, 4, none⟩ = some x4 ∧ w.cell? ⟨g, 5, none⟩ = some x5) ∧ w.cell? ⟨g, 6, none⟩ = some x6 ∧ w.cell? ⟨g, 7, none⟩ = some x7 ∧ w.cell? ⟨g, 8, none⟩ = some x8 := ⟨⟨k.cell 0, k.cell 1, k.cell 2, k.cell 3, k.cell 4, k.cell 5⟩, k.cell 6, k.cell 7, k.cell 8⟩

def wholeI (size idx : Int) (parts path : List (List Int)) : Prop :=
  (0 ≤ idx ∧ idx ≤ 255) ∧ (parts.length : Int) = wrap64 (wrap64 (4 * size) + 5) ∧ path.length ≤ 8 ∧ (∀ p ∈ parts, (p.length : Int) = size) ∧ ∀ p ∈ path, (p.length : Int) = size
instance (size idx : Int) (parts path : List (List Int)) : Decidable (wholeI size idx parts path) := by unfold wholeI; infer_instance
def sealOk (size ep ti : Int) (tr : List Int) (co : Int) (li : List Int) (ln : List (List Int)) (idx : Int) (parts path : List (List Int)) : Prop := canI size ep ti tr co li ln ∧ wholeI size idx parts path
instance (size ep ti co idx : Int) (tr li : List Int) (ln parts path : List (List Int)) : Decidable (sealOk size ep ti tr co li ln idx parts path) := by unfold sealOk; infer_instance
def codeS (size ep ti : Int) (tr : List Int) (co : Int) (li : List Int) (ln : List (List Int)) (idx : Int) (parts path : List (List Int)) : Int := if sealOk size ep ti tr co li ln idx parts path then 0 else 1
def sealI (ep ti : Int) (tr : List Int) (co : Int) (li : List Int) (ln : List (List Int)) (idx : Int) (parts path : List (List Int)) : List Int := sigTo (bytesI (encI ep ti tr co li ln)) idx parts path 2
def contS (size ep ti : Int) (tr : List Int) (co : Int) (li : List Int) (ln : List (List Int)) (idx : Int) (parts path : List (List Int)) : List Int := if sealOk size ep ti tr co li ln idx parts path then sealI ep ti tr co li ln idx parts path else []

theorem flat_size (n : Nat) : ∀ (l : List (List Int)), (∀ p ∈ l, p.length = n) → l.flatten.length = l.length * n
  | [], _ => by simp
  | p :: l, h => by
    rw [List.flatten_cons, List.length_append, h p (by simp), flat_size n l (fun q hq => h q (by simp [hq])), List.length_cons, Nat.add_mul]; omega
theorem four_size {size : Int} (h : 1 ≤ size ∧ size ≤ 32) : wrap64 (wrap64 (4 * size) + 5) = 4 * size + 5 := by
  unfold wrap64; omega
theorem whole_flat {size idx : Int} {parts path : List (List Int)} (hs : 1 ≤ size ∧ size ≤ 32) (h : wholeI size idx parts path) : parts.flatten.length ≤ 5000 ∧ path.flatten.length ≤ 256 ∧ parts.flatten.length = (4 * size.toNat + 5) * size.toNat ∧ path.flatten.length = path.length * size.toNat := by
  obtain ⟨_, h2, h3, h4, h5⟩ := h
  rw [four_size hs] at h2
  obtain ⟨n, rfl⟩ : ∃ n : Nat, size = n := ⟨size.toNat, by omega⟩
  have e1 := flat_size n parts (fun p hp => by have := h4 p hp; omega)
  have e2 := flat_size n path (fun p hp => by have := h5 p hp; omega)
  have hn : n ≤ 32 := by omega
  have hp : parts.length = 4 * n + 5 := by omega
  rw [hp] at e1
  have b1 : (4 * n + 5) * n ≤ 133 * 32 := Nat.mul_le_mul (by omega) hn
  have b2 : path.length * n ≤ 8 * 32 := Nat.mul_le_mul h3 hn
  simp only [Int.toNat_natCast]
  exact ⟨by omega, by omega, e1, e2⟩
theorem seal_len {size ep ti co idx : Int} {tr li : List Int} {ln parts path : List (List Int)} (h : sealOk size ep ti tr co li ln idx parts path) : (sealI ep ti tr co li ln idx parts path).length ≤ 7000 := by
  obtain ⟨h1, h2⟩ := h
  have b1 := enc_short h1
  have b2 := bytesI_len _ (show (encI ep ti tr co li ln).length ≤ 4611686018427387904 by omega)
  have b3 := uintN_len idx.toNat (by have := h2.1; omega)
  have b4 := whole_flat (by have := h1.1; omega) h2
  unfold sealI sigTo
  simp only [List.length_append]
  omega

theorem cbytes_e0 (u : Value) (xs : List Int) (w : World) (hn : xs.length ≤ 100000000000000) (hu : Sl w u (xs.map (Value.int .u8))) :
    Calls Tryd.prog 59 #[.slice none 0 0, u] w fun e w' => ∃ v', e = .returned v' ∧ Sl w' v' ((bytesI xs).map (Value.int .u8)) ∧ Below w.heap.size w w' :=
  (cbytes_any (.slice none 0 0) [] u xs w (by simpa using hn) (Sl.nil _) hu).mono fun e w' ⟨v', he, ho, hb⟩ => ⟨v', he, by simpa using Sl.of_owns ho, hb⟩

set_option maxRecDepth 100000 in
set_option maxHeartbeats 8000000 in
theorem seal_any (size ep ti : Int) (tr : List Int) (co : Int) (li : List Int) (ln : List (List Int)) (idx : Int) (parts path : List (List Int)) (v : Value) (w : World) (hz0 : -9223372036854775808 ≤ size) (hz1 : size ≤ 9223372036854775807) (hg : SgnV w v ep ti tr co li ln idx parts path) (hT : TzTab w) :
    Calls Tryd.prog 17 #[.int .i64 size, v] w fun e w' => ∃ x, e = .returned (.tuple #[x, .int .i64 (codeS size ep ti tr co li ln idx parts path)]) ∧ Sl w' x ((contS size ep ti tr co li ln idx parts path).map (Value.int .u8)) ∧ Below w.heap.size w w' := by
  obtain ⟨vt, vl, vk, vp, vq, rfl, hr, hgs⟩ := hg
  obtain ⟨ta, tn, tc, la, lc, lcc, ka, kc, he⟩ := hr.val
  cases he
  obtain ⟨pa, pc, qa, qc, he⟩ := hgs.val
  cases he
  have hb1 : Below w.heap.size w (w.alloc (.cells #[.int .i64 ep, .int .i64 ti, .slice ta tn tc, .int .i64 co, .slice la lc lcc, .slice ka ln.length kc, .int .i64 idx, .slice pa parts.length pc, .slice qa path.length qc] 37)) := (Below.refl _ _).alloc (Nat.le_refl _) _
  have kR := Blk.new w 37 #[.int .i64 ep, .int .i64 ti, .slice ta tn tc, .int .i64 co, .slice la lc lcc, .slice ka ln.length kc, .int .i64 idx, .slice pa parts.length pc, .slice qa path.length qc]
  have HE := Lib.hid (enc_any size ep ti tr co li ln _ (w.alloc (.cells #[.int .i64 ep, .int .i64 ti, .slice ta tn tc, .int .i64 co, .slice la lc lcc, .slice ka ln.length kc, .int .i64 idx, .slice pa parts.length pc, .slice qa path.length qc] 37)) hz0 hz1 (hr.below hb1 (Nat.le_refl _)) (hT.below hb1))
  have HGS := Lib.hid (fun w' (h : Below w.heap.size w w') => hgs.below h (Nat.le_refl _))
  have HPL := Lib.hid (show parts.length ≤ 9223372036854775807 by obtain ⟨_, _, e, h, _⟩ := hgs; cases e; exact Nat.le_trans h.shape.choose_spec.choose_spec.2.1 h.shape.choose_spec.choose_spec.2.2)
  have HDS := Lib.hid (show codeS size ep ti tr co li ln idx parts path = (if sealOk size ep ti tr co li ln idx parts path then 0 else 1) ∧ contS size ep ti tr co li ln idx parts path = (if sealOk size ep ti tr co li ln idx parts path then sealI ep ti tr co li ln idx parts path else []) from ⟨rfl, rfl⟩)
  generalize codeS size ep ti tr co li ln idx parts path = CC at *
  generalize contS size ep ti tr co li ln idx parts path = CB at *
  clear hr hgs hT
  have HSC : Hid (sealOk size ep ti tr co li ln idx parts path ↔ (canI size ep ti tr co li ln ∧ wholeI size idx parts path)) := ⟨fun h => h, fun h => h⟩
  have HWH : Hid (wholeI size idx parts path ↔ ((0 ≤ idx ∧ idx ≤ 255) ∧ (parts.length : Int) = wrap64 (wrap64 (4 * size) + 5) ∧ path.length ≤ 8 ∧ (∀ p ∈ parts, (p.length : Int) = size) ∧ ∀ p ∈ path, (p.length : Int) = size)) := ⟨fun h => h, fun h => h⟩
  by_cases hC : canI size ep ti tr co li ln
  · rw [show codeE size ep ti tr co li ln = 0 from by unfold codeE; rw [if_pos hC], show contE size ep ti tr co li ln = encI ep ti tr co li ln from by unfold contE; rw [if_pos hC]] at HE
    have HCC := Lib.hid hC
    clear hC
    go_enter Tryd.func17, Tryd.ntmps17
    go_wp2_with fail
    refine HE.out.mono ?_
    rintro e w2 ⟨x2, rfl, hx2, hb2⟩
    have hbr := below_trans2 hb1 hb2
    obtain ⟨-, c6, c7, c8⟩ := rec9 (kR.belowS hb2)
    have hbA : Below w2.heap.size w2 (w2.alloc (.cells #[.int .i64 idx, .slice pa parts.length pc, .slice qa path.length qc] 24)) := (Below.refl _ _).alloc (Nat.le_refl _) _
    have kA := Blk.new w2 24 #[.int .i64 idx, .slice pa parts.length pc, .slice qa path.length qc]
    have hx2 := hx2.below hbA (Nat.le_refl _)
    have hbr := below_trans2 hbr hbA
    clear hb1 hb2 HE
    go_upto_region 3 with (fail)
    generalize (w2.alloc (.cells #[.int .i64 idx, .slice pa parts.length pc, .slice qa path.length qc] 24)) = w3 at *
    clear c6 c7 c8 hbA
    obtain ⟨d0, d1, d2⟩ := rec3 kA
    have HSG := Lib.hid (HGS.out w3 hbr)
    have HBR := Lib.hid hbr
    have HW := Lib.hid (within_any idx 255 w3)
    have HS1 := Lib.hid (rsized_any size (.slice pa parts.length pc) parts w3 HSG.out.parts.1)
    have HS2 := Lib.hid (rsized_any size (.slice qa path.length qc) path w3 HSG.out.parts.2)
    clear hbr
    by_cases h0 : 0 ≤ idx ∧ idx ≤ 255
    rotate_left
    · skip
      rw [decide_eq_false h0] at HW
      have HNO := Lib.hid (show ¬ sealOk size ep ti tr co li ln idx parts path from fun h => h0 (HWH.out.1 h.2).1)
      clear h0
      go_wp2_with fail
      refine HW.out.mono ?_
      rintro e w4 ⟨rfl, rfl⟩
      go_wp2
      go_ret2
      rw [HDS.out.1, HDS.out.2, if_neg HNO.out, if_neg HNO.out]
      exact ⟨_, rfl, Sl.nil _, HBR.out⟩
    rw [decide_eq_true h0] at HW
    by_cases h1 : (parts.length : Int) = wrap64 (wrap64 (4 * size) + 5)
    rotate_left
    · skip
      have u1 : ((parts.length : Int) == wrap64 (wrap64 (4 * size) + 5)) = false := by simp [h1]
      have HNO := Lib.hid (show ¬ sealOk size ep ti tr co li ln idx parts path from fun h => h1 (HWH.out.1 h.2).2.1)
      clear h0 h1
      go_wp2_with fail
      refine HW.out.mono ?_
      rintro e w4 ⟨rfl, rfl⟩
      go_wp2
      go_ret2
      rw [HDS.out.1, HDS.out.2, if_neg HNO.out, if_neg HNO.out]
      exact ⟨_, rfl, Sl.nil _, HBR.out⟩
    have u1 : ((parts.length : Int) == wrap64 (wrap64 (4 * size) + 5)) = true := by simp [h1]
    by_cases h2 : path.length ≤ 8
    rotate_left
    · skip
      have u2 : ¬ (path.length : Int) ≤ 8 := by omega
      have HNO := Lib.hid (show ¬ sealOk size ep ti tr co li ln idx parts path from fun h => h2 (HWH.out.1 h.2).2.2.1)
      clear h0 h1 h2
      go_wp2_with fail
      refine HW.out.mono ?_
      rintro e w4 ⟨rfl, rfl⟩
      go_wp2
      go_ret2
      rw [HDS.out.1, HDS.out.2, if_neg HNO.out, if_neg HNO.out]
      exact ⟨_, rfl, Sl.nil _, HBR.out⟩
    have u2 : (path.length : Int) ≤ 8 := by omega
    by_cases h3 : ∀ p ∈ parts, (p.length : Int) = size
    rotate_left
    · skip
      rw [decide_eq_false h3] at HS1
      have HNO := Lib.hid (show ¬ sealOk size ep ti tr co li ln idx parts path from fun h => h3 (HWH.out.1 h.2).2.2.2.1)
      clear h0 h1 h2 h3
      go_wp2_with fail
      refine HW.out.mono ?_
      rintro e w4 ⟨rfl, rfl⟩
      go_wp2_with fail
      refine HS1.out.mono ?_
      rintro e w4 ⟨rfl, rfl⟩
      go_wp2
      go_ret2
      rw [HDS.out.1, HDS.out.2, if_neg HNO.out, if_neg HNO.out]
      exact ⟨_, rfl, Sl.nil _, HBR.out⟩
    rw [decide_eq_true h3] at HS1
    by_cases h4 : ∀ p ∈ path, (p.length : Int) = size
    rotate_left
    · skip
      rw [decide_eq_false h4] at HS2
      have HNO := Lib.hid (show ¬ sealOk size ep ti tr co li ln idx parts path from fun h => h4 (HWH.out.1 h.2).2.2.2.2)
      clear h0 h1 h2 h3 h4
      go_wp2_with fail
      refine HW.out.mono ?_
      rintro e w4 ⟨rfl, rfl⟩
      go_wp2_with fail
      refine HS1.out.mono ?_
      rintro e w4 ⟨rfl, rfl⟩
      go_wp2_with fail
      refine HS2.out.mono ?_
      rintro e w4 ⟨rfl, rfl⟩
      go_wp2
      go_ret2
      rw [HDS.out.1, HDS.out.2, if_neg HNO.out, if_neg HNO.out]
      exact ⟨_, rfl, Sl.nil _, HBR.out⟩
    rw [decide_eq_true h4] at HS2
    have HOK := Lib.hid (show sealOk size ep ti tr co li ln idx parts path from ⟨HCC.out, HWH.out.2 ⟨h0, h1, h2, h3, h4⟩⟩)
    have hi0 := h0
    clear h0 h1 h2 h3 h4
    go_wp2_with fail
    refine HW.out.mono ?_
    rintro e w4 ⟨rfl, rfl⟩
    go_wp2_with fail
    refine HS1.out.mono ?_
    rintro e w4 ⟨rfl, rfl⟩
    go_wp2_with fail
    refine HS2.out.mono ?_
    rintro e w4 ⟨rfl, rfl⟩
    go_wp2
    have HK := Lib.hid (fun w' (h : Below w3.heap.size w3 w') => rec3 (kA.belowS h))
    have hG := Lib.hid (HK.out _ (Below.refl _ _))
    have HSL := Lib.hid (seal_len HOK.out)
    have HEL := Lib.hid (enc_short HOK.out.1)
    have HSI := Lib.hid (show sealI ep ti tr co li ln idx parts path = sigTo (bytesI (encI ep ti tr co li ln)) idx parts path 2 from rfl)
    generalize encI ep ti tr co li ln = en at *
    have HC1 := Lib.hid (fun w' (h : Below w3.heap.size w3 w') => cbytes_e0 x2 en w' (by have := HEL.out; omega) (hx2.below h (Nat.le_refl _)))
    have HC2 := Lib.hid (fun v w' (h : Below w3.heap.size w3 w') (hv : Sl w' v ((bytesI en).map (Value.int .u8))) => swrite_any v (bytesI en) _ idx parts path w' hi0.1 (by have := hi0.2; omega) (by have h := HSL.out; rw [HSI.out] at h; omega) hv (HSG.out.below h (Nat.le_refl _)))
    clear hx2 hi0 d0 d1 d2 kA
    go_region_held3 (fun w' => w'.cell? ⟨w2.heap.size, 0, none⟩ = some (.int .i64 idx) ∧ w'.cell? ⟨w2.heap.size, 1, none⟩ = some (.slice pa parts.length pc) ∧ w'.cell? ⟨w2.heap.size, 2, none⟩ = some (.slice qa path.length qc)) (exact hG.out) (first | (go_at_call 14; refine (HC2.out v5 _ hb5 hs5).mono ?_; rintro e w6 ⟨v6, rfl, ho6, hb6⟩; have hs6 := Sl.of_owns ho6; have hb6 := below_trans2 hb5 hb6; have hG := Lib.hid (HK.out _ hb6)) | (go_at_call 59; refine (HC1.out _ (by first | exact Below.refl _ _ | exact (Below.refl _ _).drew)).mono ?_; rintro e w5 ⟨v5, rfl, hs5, hb5⟩; have hb5 : Below w3.heap.size w3 w5 := ⟨hb5.os, hb5.tape, hb5.output, hb5.size, hb5.block⟩; have hG := Lib.hid (HK.out _ hb5)))
    all_goals
      have hbz := below_trans2 HBR.out hb6
      go_wp2
      go_ret2
      rw [HDS.out.1, HDS.out.2, if_pos HOK.out, if_pos HOK.out, HSI.out]
      exact ⟨_, rfl, hs6, hbz⟩
  · rw [show codeE size ep ti tr co li ln = 1 from by unfold codeE; rw [if_neg hC], show contE size ep ti tr co li ln = [] from by unfold contE; rw [if_neg hC]] at HE
    go_enter Tryd.func17, Tryd.ntmps17
    go_wp2_with fail
    refine HE.out.mono ?_
    rintro e w2 ⟨x2, rfl, hx2, hb2⟩
    have hbr := below_trans2 hb1 hb2
    obtain ⟨-, c6, c7, c8⟩ := rec9 (kR.belowS hb2)
    have hbA : Below w2.heap.size w2 (w2.alloc (.cells #[.int .i64 idx, .slice pa parts.length pc, .slice qa path.length qc] 24)) := (Below.refl _ _).alloc (Nat.le_refl _) _
    have kA := Blk.new w2 24 #[.int .i64 idx, .slice pa parts.length pc, .slice qa path.length qc]
    have hx2 := hx2.below hbA (Nat.le_refl _)
    have hbr := below_trans2 hbr hbA
    clear hb1 hb2 HE
    go_upto_region 3 with (fail)
    generalize (w2.alloc (.cells #[.int .i64 idx, .slice pa parts.length pc, .slice qa path.length qc] 24)) = w3 at *
    clear c6 c7 c8 hbA
    obtain ⟨d0, d1, d2⟩ := rec3 kA
    have HSG := Lib.hid (HGS.out w3 hbr)
    have HBR := Lib.hid hbr
    have HW := Lib.hid (within_any idx 255 w3)
    have HS1 := Lib.hid (rsized_any size (.slice pa parts.length pc) parts w3 HSG.out.parts.1)
    have HS2 := Lib.hid (rsized_any size (.slice qa path.length qc) path w3 HSG.out.parts.2)
    clear hbr
    by_cases h0 : 0 ≤ idx ∧ idx ≤ 255
    rotate_left
    · skip
      rw [decide_eq_false h0] at HW
      have HNO := Lib.hid (show ¬ sealOk size ep ti tr co li ln idx parts path from fun h => h0 (HWH.out.1 h.2).1)
      clear h0
      go_wp2_with fail
      refine HW.out.mono ?_
      rintro e w4 ⟨rfl, rfl⟩
      go_wp2
      go_ret2
      rw [HDS.out.1, HDS.out.2, if_neg HNO.out, if_neg HNO.out]
      exact ⟨_, rfl, Sl.nil _, HBR.out⟩
    rw [decide_eq_true h0] at HW
    by_cases h1 : (parts.length : Int) = wrap64 (wrap64 (4 * size) + 5)
    rotate_left
    · skip
      have u1 : ((parts.length : Int) == wrap64 (wrap64 (4 * size) + 5)) = false := by simp [h1]
      have HNO := Lib.hid (show ¬ sealOk size ep ti tr co li ln idx parts path from fun h => h1 (HWH.out.1 h.2).2.1)
      clear h0 h1
      go_wp2_with fail
      refine HW.out.mono ?_
      rintro e w4 ⟨rfl, rfl⟩
      go_wp2
      go_ret2
      rw [HDS.out.1, HDS.out.2, if_neg HNO.out, if_neg HNO.out]
      exact ⟨_, rfl, Sl.nil _, HBR.out⟩
    have u1 : ((parts.length : Int) == wrap64 (wrap64 (4 * size) + 5)) = true := by simp [h1]
    by_cases h2 : path.length ≤ 8
    rotate_left
    · skip
      have u2 : ¬ (path.length : Int) ≤ 8 := by omega
      have HNO := Lib.hid (show ¬ sealOk size ep ti tr co li ln idx parts path from fun h => h2 (HWH.out.1 h.2).2.2.1)
      clear h0 h1 h2
      go_wp2_with fail
      refine HW.out.mono ?_
      rintro e w4 ⟨rfl, rfl⟩
      go_wp2
      go_ret2
      rw [HDS.out.1, HDS.out.2, if_neg HNO.out, if_neg HNO.out]
      exact ⟨_, rfl, Sl.nil _, HBR.out⟩
    have u2 : (path.length : Int) ≤ 8 := by omega
    by_cases h3 : ∀ p ∈ parts, (p.length : Int) = size
    rotate_left
    · skip
      rw [decide_eq_false h3] at HS1
      have HNO := Lib.hid (show ¬ sealOk size ep ti tr co li ln idx parts path from fun h => h3 (HWH.out.1 h.2).2.2.2.1)
      clear h0 h1 h2 h3
      go_wp2_with fail
      refine HW.out.mono ?_
      rintro e w4 ⟨rfl, rfl⟩
      go_wp2_with fail
      refine HS1.out.mono ?_
      rintro e w4 ⟨rfl, rfl⟩
      go_wp2
      go_ret2
      rw [HDS.out.1, HDS.out.2, if_neg HNO.out, if_neg HNO.out]
      exact ⟨_, rfl, Sl.nil _, HBR.out⟩
    rw [decide_eq_true h3] at HS1
    by_cases h4 : ∀ p ∈ path, (p.length : Int) = size
    rotate_left
    · skip
      rw [decide_eq_false h4] at HS2
      have HNO := Lib.hid (show ¬ sealOk size ep ti tr co li ln idx parts path from fun h => h4 (HWH.out.1 h.2).2.2.2.2)
      clear h0 h1 h2 h3 h4
      go_wp2_with fail
      refine HW.out.mono ?_
      rintro e w4 ⟨rfl, rfl⟩
      go_wp2_with fail
      refine HS1.out.mono ?_
      rintro e w4 ⟨rfl, rfl⟩
      go_wp2_with fail
      refine HS2.out.mono ?_
      rintro e w4 ⟨rfl, rfl⟩
      go_wp2
      go_ret2
      rw [HDS.out.1, HDS.out.2, if_neg HNO.out, if_neg HNO.out]
      exact ⟨_, rfl, Sl.nil _, HBR.out⟩
    rw [decide_eq_true h4] at HS2
    have HNO := Lib.hid (show ¬ sealOk size ep ti tr co li ln idx parts path from fun h => hC h.1)
    clear h0 h1 h2 h3 h4
    go_wp2_with fail
    refine HW.out.mono ?_
    rintro e w4 ⟨rfl, rfl⟩
    go_wp2_with fail
    refine HS1.out.mono ?_
    rintro e w4 ⟨rfl, rfl⟩
    go_wp2_with fail
    refine HS2.out.mono ?_
    rintro e w4 ⟨rfl, rfl⟩
    go_wp2
    go_ret2
    rw [HDS.out.1, HDS.out.2, if_neg HNO.out, if_neg HNO.out]
    exact ⟨_, rfl, Sl.nil _, HBR.out⟩

end Go.Proofs.YtjhannlioddkkaaDoor

namespace Go.Proofs.YtjhannlioddkkaaDoor
open Go.RowKit
set_option linter.unusedVariables false

/-- A number that is too great is told. -/
theorem uintN_over (m : Nat) (hm : m ≤ 4611686018427387904) (most : Int) (h : most < (m : Int)) (rest : List Int) : (uI most (uintN m ++ rest) 0).2.2 = 4 := by
  have h0 := uintN_read m hm (m : Int) (Int.le_refl _) rest
  have e0 : uintN m ++ rest = (width m : Int) :: (beI m (width m) (width m) ++ rest) := rfl
  obtain ⟨h8, hlt, hge⟩ := width_spec m hm
  have hL : (beI m (width m) (width m)).length = width m := beI_len _ _ _
  have ht : (beI m (width m) (width m) ++ rest).take (width m : Int).toNat = beI m (width m) (width m) := by
    rw [Int.toNat_natCast]; exact List.take_left' hL
  have hb : beN (beI m (width m) (width m)) = m := by
    rw [beN_beI m _ hlt _ (Nat.le_refl _), Nat.sub_self]; simp
  have hf : ¬ ((0 < (width m : Int).toNat ∧ (beI m (width m) (width m) ++ rest).getD 0 0 = 0) ∨ 4611686018427387904 < beN ((beI m (width m) (width m) ++ rest).take (width m : Int).toNat)) := by
    intro hf
    rw [e0] at h0
    have h1 := uI_form (m : Int) (width m : Int) (beI m (width m) (width m) ++ rest) (by omega) (by rw [Int.toNat_natCast, List.length_append, hL]; omega) hf
    rw [h1] at h0
    have h2 := congrArg (fun x => x.2.2) h0
    simp at h2
  rw [e0, uI_full most _ _ (by omega) (by rw [Int.toNat_natCast, List.length_append, hL]; omega) hf (by rw [ht, hb]; exact h)]

theorem chunksI_flat (z : Nat) (r : List Int) : ∀ n, z * n ≤ r.length → (chunksI z r 0 n).flatten = r.take (z * n)
  | 0, _ => by simp [chunksI]
  | n + 1, h => by
    have h' : z * n ≤ r.length := Nat.le_trans (Nat.mul_le_mul (Nat.le_refl z) (Nat.le_succ n)) h
    rw [chunksI_succ, Nat.zero_add, List.flatten_append, chunksI_flat z r n h', List.flatten_cons, List.flatten_nil, List.append_nil]
    unfold chunkI
    rw [Nat.mul_succ, List.take_add]

theorem flat_chunks (z : Nat) : ∀ (ps : List (List Int)) (more : List Int), (∀ p ∈ ps, p.length = z) → chunksI z (ps.flatten ++ more) 0 ps.length = ps
  | [], _, _ => rfl
  | p :: ps, more, h => by
    have hp := h p (by simp)
    unfold chunksI
    rw [List.length_cons, List.range_succ_eq_map, List.map_cons, List.map_map]
    have h0 : chunkI z ((p :: ps).flatten ++ more) (0 + 0) = p := by
      unfold chunkI
      rw [List.flatten_cons, List.append_assoc]
      simp only [Nat.add_zero, Nat.mul_zero, List.drop_zero]
      exact List.take_left' hp
    rw [h0]
    congr 1
    have ih := flat_chunks z ps more (fun q hq => h q (by simp [hq]))
    refine Eq.trans ?_ ih
    unfold chunksI
    refine List.map_congr_left fun i _ => ?_
    show chunkI z ((p :: ps).flatten ++ more) (0 + (i + 1)) = chunkI z (ps.flatten ++ more) (0 + i)
    unfold chunkI
    rw [List.flatten_cons, List.append_assoc, show z * (0 + (i + 1)) = p.length + z * (0 + i) by rw [hp, Nat.zero_add, Nat.zero_add, Nat.mul_succ]; omega, List.drop_append]
    simp [List.drop_eq_nil_of_le]

/-- A signature's bytes, read back. -/
theorem mr_back {size idx : Int} {parts path : List (List Int)} (hs : 1 ≤ size ∧ size ≤ 32) (h : wholeI size idx parts path) :
    (¬ idx ≤ 2 ^ path.length - 1 → ¬ mrC size path.length (uintN idx.toNat ++ (parts.flatten ++ path.flatten)) = 0) ∧
    (idx ≤ 2 ^ path.length - 1 → mrC size path.length (uintN idx.toNat ++ (parts.flatten ++ path.flatten)) = 0 ∧ (mrU path.length (uintN idx.toNat ++ (parts.flatten ++ path.flatten))).1 = idx ∧
      mrParts size (mrU path.length (uintN idx.toNat ++ (parts.flatten ++ path.flatten))).2.1 = parts ∧ mrPath size path.length (mrU path.length (uintN idx.toNat ++ (parts.flatten ++ path.flatten))).2.1 = path ∧
      ((mrU path.length (uintN idx.toNat ++ (parts.flatten ++ path.flatten))).2.1.drop (mrNeed size path.length)) = []) := by
  obtain ⟨⟨hi0, hi1⟩, hpl, hql, hp, hq⟩ := h
  obtain ⟨z, rfl⟩ : ∃ z : Nat, size = z := ⟨size.toNat, by omega⟩
  obtain ⟨i, rfl⟩ : ∃ i : Nat, idx = i := ⟨idx.toNat, by omega⟩
  have hpl' : parts.length = 4 * z + 5 := by rw [four_size hs] at hpl; omega
  have hp' : ∀ p ∈ parts, p.length = z := fun p h => by have := hp p h; omega
  have hq' : ∀ p ∈ path, p.length = z := fun p h => by have := hq p h; omega
  have hcan : mcanB (z : Int) (path.length : Int) = true := by unfold mcanB; exact decide_eq_true ⟨by omega, by omega, by omega, by omega⟩
  have hU : mrU path.length (uintN i ++ (parts.flatten ++ path.flatten)) = uI (2 ^ path.length - 1) (uintN i ++ (parts.flatten ++ path.flatten)) 0 := rfl
  have hC : mrC z path.length (uintN i ++ (parts.flatten ++ path.flatten)) = if (mrU path.length (uintN i ++ (parts.flatten ++ path.flatten))).2.2 ≠ 0 then (mrU path.length (uintN i ++ (parts.flatten ++ path.flatten))).2.2 else if (mrU path.length (uintN i ++ (parts.flatten ++ path.flatten))).2.1.length < mrNeed z path.length then 3 else 0 := by
    unfold mrC; rw [if_neg (by simp [hcan])]; simp
  rw [Int.toNat_natCast, hC]
  have hfl : (parts.flatten ++ path.flatten).length = mrNeed z path.length := by
    rw [List.length_append, flat_size z parts hp', flat_size z path hq', hpl', ← Nat.add_mul]
    unfold mrNeed
    rw [Int.toNat_natCast, Int.toNat_natCast, Nat.mul_comm]
  refine ⟨fun hn => ?_, fun hn => ?_⟩
  · have h4 : (mrU path.length (uintN i ++ (parts.flatten ++ path.flatten))).2.2 = 4 := by rw [hU]; exact uintN_over i (by omega) _ (by omega) _
    rw [h4, if_pos (by decide)]
    decide
  · have hr : mrU path.length (uintN i ++ (parts.flatten ++ path.flatten)) = ((i : Int), parts.flatten ++ path.flatten, 0) := by rw [hU]; exact uintN_read i (by omega) _ hn _
    rw [hr]
    refine ⟨by rw [if_neg (by simp), if_neg (by rw [hfl]; exact Nat.lt_irrefl _)], rfl, ?_, ?_, ?_⟩
    · unfold mrParts
      rw [Int.toNat_natCast, ← hpl']
      exact flat_chunks z parts _ hp'
    · unfold mrPath
      rw [Int.toNat_natCast, Int.toNat_natCast]
      have h2 := flat_chunks z path [] hq'
      rw [List.append_nil] at h2
      refine Eq.trans ?_ h2
      unfold chunksI
      refine List.map_congr_left fun j _ => ?_
      show chunkI z (parts.flatten ++ path.flatten) (4 * z + 5 + j) = chunkI z path.flatten (0 + j)
      unfold chunkI
      rw [Nat.mul_add z (4 * z + 5), ← List.drop_drop, Nat.zero_add]
      congr 2
      exact List.drop_left' (by rw [flat_size z parts hp', hpl', Nat.mul_comm])
    · exact List.drop_eq_nil_of_le (by rw [hfl]; exact Nat.le_refl _)

/-- Bytes that are a signature, with what is behind it. -/
theorem mr_canon {size height : Int} {bs : List Int} (hB : IsB bs) (h : mrC size height bs = 0) :
    bs = sigTo [] (mrU height.toNat bs).1 (mrParts size (mrU height.toNat bs).2.1) (mrPath size height (mrU height.toNat bs).2.1) 2 ++ (mrU height.toNat bs).2.1.drop (mrNeed size height) := by
  unfold mrC at h
  split at h
  · cases h
  · rename_i hcan
    split at h
    · rename_i he; exact absurd h he
    · rename_i he
      split at h
      · cases h
      · rename_i hl
        have he' : (mrU height.toNat bs).2.2 = 0 := by simpa using he
        have hc := uI_canon (2 ^ height.toNat - 1) bs hB he'
        have hc : bs = uintN (mrU height.toNat bs).1.toNat ++ (mrU height.toNat bs).2.1 := hc
        generalize hU : mrU height.toNat bs = U at *
        obtain ⟨idx, r, e⟩ := U
        simp only at hc hl ⊢
        have hN : mrNeed size height = size.toNat * (4 * size.toNat + 5) + size.toNat * height.toNat := by unfold mrNeed; rw [Nat.mul_add]
        have hl1 : size.toNat * (4 * size.toNat + 5) ≤ r.length := by omega
        unfold sigTo mrParts mrPath
        rw [List.nil_append, chunksI_flat _ r _ hl1]
        have e2 : (chunksI size.toNat r (4 * size.toNat + 5) height.toNat).flatten = (r.drop (size.toNat * (4 * size.toNat + 5))).take (size.toNat * height.toNat) := by
          rw [← chunksI_flat size.toNat (r.drop (size.toNat * (4 * size.toNat + 5))) height.toNat (by rw [List.length_drop]; omega)]
          congr 1
          unfold chunksI
          refine List.map_congr_left fun j _ => ?_
          unfold chunkI
          rw [List.drop_drop, Nat.mul_add, Nat.zero_add]
        rw [e2, hN]
        generalize size.toNat * (4 * size.toNat + 5) = A at *
        generalize size.toNat * height.toNat = D at *
        show bs = ((uintN idx.toNat ++ List.take A r) ++ List.take D (List.drop A r)) ++ List.drop (A + D) r
        rw [List.append_assoc, List.append_assoc]
        conv => lhs; rw [hc]
        congr 1
        rw [← List.drop_drop, List.take_append_drop, List.take_append_drop]

/-- A piece of bytes is bytes. -/
theorem chunksI_isB {z a n : Nat} {r : List Int} (h : IsB r) : ∀ p ∈ chunksI z r a n, IsB p := by
  intro p hp
  unfold chunksI at hp
  obtain ⟨i, _, rfl⟩ := List.mem_map.1 hp
  unfold chunkI
  exact (h.drop _).take _

end Go.Proofs.YtjhannlioddkkaaDoor

namespace Go.Proofs.YtjhannlioddkkaaDoor
open Go.RowKit
set_option linter.unusedVariables false

/-- Some texts behind bytes. -/
def catTo (a : List Int) (pss : List (List Int)) (k : Nat) : List Int := a ++ (pss.take k).flatten
theorem catTo_zero (a : List Int) (pss : List (List Int)) : catTo a pss 0 = a := by simp [catTo]
theorem catTo_all (a : List Int) (pss : List (List Int)) : catTo a pss pss.length = a ++ pss.flatten := by simp [catTo]
theorem catTo_succ (a : List Int) (pss : List (List Int)) (k : Nat) (hk : k < pss.length) : catTo a pss (k + 1) = catTo a pss k ++ pss.getD k [] := by
  unfold catTo
  rw [flat_succ pss k hk, List.append_assoc]
theorem catTo_len (a : List Int) (pss : List (List Int)) (k : Nat) : (catTo a pss k).length ≤ a.length + pss.flatten.length := by
  unfold catTo
  rw [List.length_append]
  exact Nat.add_le_add_left (flat_le pss k) _

set_option maxRecDepth 100000 in
set_option maxHeartbeats 4000000 in
theorem rswrite_any (v : Value) (bs : List Int) (sv : Value) (idx : Int) (parts path : List (List Int)) (w : World) (h0 : 0 ≤ idx) (h1 : idx ≤ 4611686018427387904) (hT : (sigTo bs idx parts path 2).length ≤ 100000000000000) (hs : Sl w v (bs.map (Value.int .u8))) (hg : SigV w sv idx parts path) :
    Calls Tryd.prog 15 #[v, sv] w fun e w' => ∃ x, e = .returned x ∧ w'.ownsRow w.heap.size 5 1 x (sigTo bs idx parts path 2).length ((sigTo bs idx parts path 2).map (Value.int .u8)) ∧ Below w.heap.size w w' := by
  obtain ⟨pa, pc, qa, qc, rfl⟩ := hg.val
  obtain ⟨g1, g2⟩ := hg.parts
  have hS0 : sigTo bs idx parts path 2 = (sigTo bs idx parts path 0 ++ parts.flatten) ++ path.flatten := rfl
  have hLL : (sigTo bs idx parts path 0).length + parts.flatten.length + path.flatten.length ≤ 100000000000000 := by rw [hS0] at hT; simpa [Nat.add_assoc] using hT
  have hb1 : Below w.heap.size w (w.alloc (.cells #[.int .i64 idx, .slice pa parts.length pc, .slice qa path.length qc] 24)) := (Below.refl _ _).alloc (Nat.le_refl _) _
  have kS := Blk.new w 24 #[.int .i64 idx, .slice pa parts.length pc, .slice qa path.length qc]
  have hU0 : (sigTo bs idx parts path 0).length = bs.length + (uintN idx.toNat).length := List.length_append
  have HU := Lib.hid (ruint_any v bs idx (w.alloc (.cells #[.int .i64 idx, .slice pa parts.length pc, .slice qa path.length qc] 24)) (by omega) (hs.below hb1 (Nat.le_refl _)) h0 h1)
  have HG1 := Lib.hid (fun w' (h : Below w.heap.size w w') => g1.below h (Nat.le_refl _))
  have HG2 := Lib.hid (fun w' (h : Below w.heap.size w w') => g2.below h (Nat.le_refl _))
  have HLL := Lib.hid hLL
  have HS0 := Lib.hid hS0
  have HPL := Lib.hid (show parts.length ≤ 9223372036854775807 by obtain ⟨_, _, _, h3, h4⟩ := g1.shape; exact Nat.le_trans h3 h4)
  have HQL := Lib.hid (show path.length ≤ 9223372036854775807 by obtain ⟨_, _, _, h3, h4⟩ := g2.shape; exact Nat.le_trans h3 h4)
  clear hs hg g1 g2 hT hLL hS0 h0 h1
  obtain ⟨i0, hi, hz0, hz1, hz2⟩ := info_parts info8c
  go_enter Tryd.func15, Tryd.ntmps15
  go_wp2_with fail
  refine HU.out.mono ?_
  rintro e w2 ⟨x, rfl, hO, hb2⟩
  have hbr := below_trans2 hb1 hb2
  have hO : w2.ownsRow w.heap.size 5 1 x (catTo (sigTo bs idx parts path 0) parts 0).length ((catTo (sigTo bs idx parts path 0) parts 0).map (Value.int .u8)) := by
    rw [catTo_zero, hU0]
    exact ownsRow_base hO (by simp)
  have kS := kS.belowS hb2
  obtain ⟨c0, c1, c2⟩ := rec3 kS
  generalize sigTo bs idx parts path 0 = S0 at *
  clear HU hb1 hb2 hU0
  have HKS := Lib.hid kS
  clear kS
  go_wp2
  go_loopw [5, 17] (fun b i wr => ∃ (k : Nat) (bv : Value), bv = b ∧ k ≤ parts.length ∧ i = .int .i64 k ∧ wr.ownsRow w.heap.size 5 1 bv (catTo S0 parts k).length ((catTo S0 parts k).map (Value.int .u8)) ∧ Below w.heap.size w wr ∧ Blk wr w.heap.size 24 #[.int .i64 idx, .slice pa parts.length pc, .slice qa path.length qc]) (fun _ i _ => parts.length - (intOf i).toNat)
  case atStart => exact ⟨0, _, rfl, by omega, rfl, hO, hbr, HKS.out⟩
  case round =>
    clear hO hbr c0 c1 c2
    obtain ⟨k, bv, rfl, hk, rfl, hO, hbr, kS⟩ := hrel
    by_cases hlt : k < parts.length
    · obtain ⟨b1, o1, rfl, hb1, u1, k1, t1⟩ := (HG1.out wr hbr).at hlt
      have hkI : (k : Int) < (parts.length : Int) := by omega
      have HSU := Lib.hid (catTo_succ S0 parts k hlt)
      have HCL := Lib.hid (show (catTo S0 parts k).length + (parts.getD k []).length ≤ 100000000000000 by
        have h1 := catTo_len S0 parts (k + 1)
        have h2 := HLL.out
        rw [catTo_succ S0 parts k hlt, List.length_append] at h1
        omega)
      have HKS := Lib.hid kS
      have HKW := Lib.hid (show wrap64 ((k : Int) + 1) = ((k + 1 : Nat) : Int) by have := HPL.out; unfold wrap64; omega)
      generalize parts.getD k [] = P at *
      generalize catTo S0 parts k = S1 at *
      obtain ⟨xa, xn, xc, rfl⟩ := t1.val
      clear kS hk
      go_wp2_with (at_builtin; refine wpList_append_sl rfl _ _ 25 rfl w.heap.size 5 i0 (.int .u8 0) 1 Tryd.underlying25 hi hz0 hz1 hz2 rfl _ S1.length (S1.map (Value.int .u8)) rfl hO (.slice xa xn xc) (P.map (Value.int .u8)) rfl t1 (one8 _) (by have h1 := HCL.out; rw [List.length_map]; unfold maxLen; omega) (by have h1 := HCL.out; rw [List.length_map]; omega) hbr.size ?_)
      intro xv w4 hown4 hg4
      have hb4 := below_grown hbr hO (Nat.le_refl _) hbr.size hg4
      have kS4 := HKS.out.grown hg4 (fun e => own_blk_ne hO HKS.out (by decide) e.symm)
      rw [← List.length_append, ← List.map_append, ← HSU.out] at hown4
      have HO4 := Lib.hid hown4
      clear hO hbr hown4 hg4
      go_wp2
      go_roundw
      case rel => exact ⟨k + 1, _, rfl, by omega, by rw [HKW.out], HO4.out, hb4, kS4⟩
      case measure => rw [HKW.out]; simp [intOf]; omega
    · obtain rfl : k = parts.length := by omega
      have hkI : ¬ (parts.length : Int) < (parts.length : Int) := by omega
      obtain ⟨c0, c1, c2⟩ := rec3 kS
      have hO2 : wr.ownsRow w.heap.size 5 1 bv (catTo (S0 ++ parts.flatten) path 0).length ((catTo (S0 ++ parts.flatten) path 0).map (Value.int .u8)) := by
        rw [catTo_zero, ← catTo_all]; exact hO
      have HLM := Lib.hid (show (S0 ++ parts.flatten).length + path.flatten.length ≤ 100000000000000 by have := HLL.out; rw [List.length_append]; omega)
      generalize S0 ++ parts.flatten = S2 at *
      have HKS := Lib.hid kS
      generalize wr = wz at *
      clear hO kS hlt hk
      go_wp2
      go_loopw [5, 28] (fun b i wr => ∃ (k : Nat) (bv : Value), bv = b ∧ k ≤ path.length ∧ i = .int .i64 k ∧ wr.ownsRow w.heap.size 5 1 bv (catTo S2 path k).length ((catTo S2 path k).map (Value.int .u8)) ∧ Below w.heap.size w wr) (fun _ i _ => path.length - (intOf i).toNat)
      case atStart => exact ⟨0, _, rfl, by omega, rfl, hO2, hbr⟩
      case round =>
        clear hO2 hbr c0 c1 c2
        obtain ⟨k, bv, rfl, hk, rfl, hO, hbr⟩ := hrel
        by_cases hlt : k < path.length
        · obtain ⟨b1, o1, rfl, hb1, u1, k1, t1⟩ := (HG2.out wr hbr).at hlt
          have hkI2 : (k : Int) < (path.length : Int) := by omega
          have HSU := Lib.hid (catTo_succ S2 path k hlt)
          have HCL := Lib.hid (show (catTo S2 path k).length + (path.getD k []).length ≤ 100000000000000 by
            have h1 := catTo_len S2 path (k + 1)
            have h2 := HLM.out
            rw [catTo_succ S2 path k hlt, List.length_append] at h1
            omega)
          have HKW := Lib.hid (show wrap64 ((k : Int) + 1) = ((k + 1 : Nat) : Int) by have := HQL.out; unfold wrap64; omega)
          generalize path.getD k [] = P at *
          generalize catTo S2 path k = S1 at *
          obtain ⟨xa, xn, xc, rfl⟩ := t1.val
          clear hk
          go_wp2_with (at_builtin; refine wpList_append_sl rfl _ _ 25 rfl w.heap.size 5 i0 (.int .u8 0) 1 Tryd.underlying25 hi hz0 hz1 hz2 rfl _ S1.length (S1.map (Value.int .u8)) rfl hO (.slice xa xn xc) (P.map (Value.int .u8)) rfl t1 (one8 _) (by have h1 := HCL.out; rw [List.length_map]; unfold maxLen; omega) (by have h1 := HCL.out; rw [List.length_map]; omega) hbr.size ?_)
          intro xv w4 hown4 hg4
          have hb4 := below_grown hbr hO (Nat.le_refl _) hbr.size hg4
          rw [← List.length_append, ← List.map_append, ← HSU.out] at hown4
          have HO4 := Lib.hid hown4
          clear hO hbr hown4 hg4
          go_wp2
          go_roundw
          case rel => exact ⟨k + 1, _, rfl, by omega, by rw [HKW.out], HO4.out, hb4⟩
          case measure => rw [HKW.out]; simp [intOf]; omega
        · obtain rfl : k = path.length := by omega
          have hkI2 : ¬ (path.length : Int) < (path.length : Int) := by omega
          have HF := Lib.hid (show wr.ownsRow w.heap.size 5 1 bv (sigTo bs idx parts path 2).length ((sigTo bs idx parts path 2).map (Value.int .u8)) by
            rw [HS0.out, ← catTo_all S2 path]; exact hO)
          clear hO
          go_wp2
          go_ret
          exact ⟨_, rfl, HF.out, hbr⟩

end Go.Proofs.YtjhannlioddkkaaDoor

namespace Go.Proofs.YtjhannlioddkkaaDoor
open Go.RowKit
set_option linter.unusedVariables false

set_option maxRecDepth 100000 in
set_option maxHeartbeats 1000000 in
theorem cuint_all (v : Value) (bs : List Int) (n : Int) (w : World) (hn : bs.length ≤ 100000000000000) (hs : Sl w v (bs.map (Value.int .u8))) :
    Calls Tryd.prog 51 #[v, .int .i64 n] w fun e w' => ∃ v', e = .returned v' ∧ w'.ownsRow w.heap.size 5 1 v' (bs.length + (uintN (clampN n)).length) ((bs ++ uintN (clampN n)).map (Value.int .u8)) ∧ Below w.heap.size w w' := by
  obtain ⟨m, hm⟩ : ∃ m : Nat, m = clampN n := ⟨_, rfl⟩
  rw [← hm]
  have hmb : m ≤ 4611686018427387904 := by rw [hm]; unfold clampN; omega
  have HMM := Lib.hid (show min (max n 0) 4611686018427387904 = (m : Int) by rw [hm]; unfold clampN; omega)
  have HMR := Lib.hid (show max (min n 4611686018427387904) 0 = (m : Int) ∧ max 0 (min n 4611686018427387904) = (m : Int) by rw [hm]; unfold clampN; omega)
  clear hm
  have HC := Lib.hid (sclone_own v bs w (by omega) hs)
  have HB := Lib.hid (fun w1 => bitsLen_any m w1 (by omega) (by omega))
  rw [Int.toNat_natCast] at HB
  have hL : Lib.bitLen m ≤ 63 := Lib.bitLen_le m 63 (by omega) (by omega)
  have hW : width m = (Lib.bitLen m + 7) / 8 := rfl
  generalize Lib.bitLen m = L at *
  unfold uintN
  generalize width m = W at *
  have hW8 : W ≤ 8 := by omega
  have HWL := Lib.hid (show ((L : Int) + 7) / 8 = (W : Int) by omega)
  clear hW
  obtain ⟨i0, hi, hz0, hz1, hz2⟩ := info_parts info8c
  have hBN : bs.length ≤ 100000000000000 := hn
  go_enter Tryd.func51, Tryd.ntmps51
  go_wp2_with fail
  rw [HMM.out]
  clear HMM HMR
  refine (HB.out _).mono ?_
  rintro e w1 ⟨rfl, rfl⟩
  go_wp2_with fail
  rw [HWL.out]
  clear HWL
  refine HC.out.mono ?_
  rintro e w2 ⟨v2, rfl, hown, hb2⟩
  have hsz2 := hb2.size
  go_wp2_with (at_builtin; refine wpList_append_sl rfl _ _ 25 rfl w.heap.size 5 i0 (.int .u8 0) 1 Tryd.underlying25 hi hz0 hz1 hz2 rfl _ _ _ rfl (hown.alloc _) (.slice (some ⟨w2.heap.size, 0, none⟩) 1 1) ([(W : Int)].map (Value.int .u8)) rfl (Sl.litL w2 ([(W : Int)].map (Value.int .u8)) 5 (by simp [maxLen])) (one8 _) (by simp; unfold maxLen; omega) (by simp; omega) (by simp; omega) ?_)
  intro v3 w3 hown3 hg3
  have hb3 := below_grown (hb2.alloc hb2.size _) (hown.alloc _) (Nat.le_refl _) (by simp; omega) hg3
  clear hg3 hown hb2
  clear HC HB
  have hst : w3.ownsRow w.heap.size 5 1 v3 (bs.length + 1 + 0) ((bs ++ (W : Int) :: beI m W 0).map (Value.int .u8)) := by
    have e : (bs ++ (W : Int) :: beI m W 0).map (Value.int .u8) = bs.map (Value.int .u8) ++ [.int .u8 (W : Int)] := by simp [beI]
    rw [e]; exact hown3
  clear hown3
  go_wp2
  go_loopw [6, 7] (fun o i wr => ∃ (r : Nat) (ov : Value), ov = o ∧ r ≤ W ∧ (r = 0 ∧ i = .int .i64 (-1) ∨ ∃ j : Nat, r = j + 1 ∧ i = .int .i64 j) ∧ wr.ownsRow w.heap.size 5 1 ov (bs.length + 1 + (W - r)) ((bs ++ (W : Int) :: beI m W (W - r)).map (Value.int .u8)) ∧ Below w.heap.size w wr) (fun _ i _ => (intOf i + 1).toNat)
  case atStart =>
    refine ⟨W, _, rfl, Nat.le_refl _, ?_, by rw [Nat.sub_self]; exact hst, hb3⟩
    rcases Nat.eq_zero_or_pos W with h | h
    · subst h; exact .inl ⟨rfl, by simp⟩
    · exact .inr ⟨W - 1, by omega, by rw [show ((W - 1 : Nat) : Int) = (W : Int) - 1 by omega]⟩
  case round =>
    obtain ⟨r, ov, rfl, hr, hcase, hown, hbr⟩ := hrel
    rcases hcase with ⟨rfl, rfl⟩ | ⟨j, rfl, rfl⟩
    · rw [Nat.sub_zero] at hown
      have hfin : Hid (wr.ownsRow w.heap.size 5 1 ov (bs.length + ((W : Int) :: beI m W W).length) ((bs ++ (W : Int) :: beI m W W).map (Value.int .u8))) := by
        show World.ownsRow _ _ _ _ _ _ _
        rw [show bs.length + ((W : Int) :: beI m W W).length = bs.length + 1 + W by rw [List.length_cons, beI_len]; omega]
        exact hown
      clear hown
      go_wp2
      go_ret
      exact ⟨_, rfl, hfin.out, hbr⟩
    · have hj7 : j ≤ 7 := by omega
      have HD := Lib.hid (dig_shr m j)
      have hLL : (bs ++ (W : Int) :: beI m W (W - (j + 1))).length = bs.length + 1 + (W - (j + 1)) := by rw [List.length_append, List.length_cons, beI_len]; omega
      have hst5 : bs.map (Value.int .u8) ++ Value.int .u8 (W : Int) :: ((beI m W (W - (j + 1))).map (Value.int .u8) ++ [Value.int .u8 ((m : Int) / 2 ^ (8 * j) % 256)]) = (bs ++ (W : Int) :: beI m W (W - j)).map (Value.int .u8) := by
        rw [dig_shr, show W - j = (W - (j + 1)) + 1 by omega, beI_succ, show W - 1 - (W - (j + 1)) = j by omega]
        simp
      have HST := Lib.hid hst5
      have hn5 : bs.length + 1 + (W - (j + 1)) + 1 = bs.length + 1 + (W - j) := by omega
      have HN5 := Lib.hid hn5
      clear hst5 hn5
      go_wp2_with (at_builtin; refine wpList_append_sl rfl _ _ 25 rfl w.heap.size 5 i0 (.int .u8 0) 1 Tryd.underlying25 hi hz0 hz1 hz2 rfl _ _ _ rfl (hown.alloc _) (.slice (some ⟨wr.heap.size, 0, none⟩) 1 1) ([(m : Int) / 2 ^ (8 * j) % 256].map (Value.int .u8)) rfl (Sl.litL wr ([(m : Int) / 2 ^ (8 * j) % 256].map (Value.int .u8)) 5 (by simp [maxLen])) (one8 _) (by simp; unfold maxLen; omega) (by simp; omega) (by have := hbr.size; simp; omega) ?_)
      intro v5 w5 hown5 hg5
      have hb5 := below_grown (hbr.alloc hbr.size _) (hown.alloc _) (Nat.le_refl _) (by have := hbr.size; simp; omega) hg5
      rw [HST.out, HN5.out] at hown5
      clear hg5 hown
      have HO := Lib.hid hown5
      clear hown5
      go_wp2
      refine ⟨⟨j, _, rfl, by omega, ?_, HO.out, hb5⟩, by simp [intOf]⟩
      rcases Nat.eq_zero_or_pos j with h | h
      · subst h; exact .inl ⟨rfl, by simp⟩
      · exact .inr ⟨j - 1, by omega, by rw [show ((j - 1 : Nat) : Int) = (j : Int) - 1 by omega]⟩

set_option maxRecDepth 100000 in
set_option maxHeartbeats 1000000 in
theorem ruint_all (v : Value) (bs : List Int) (n : Int) (w : World) (hn : bs.length ≤ 100000000000000) (hs : Sl w v (bs.map (Value.int .u8))) :
    Calls Tryd.prog 53 #[v, .int .i64 n] w fun e w' => ∃ v', e = .returned v' ∧ w'.ownsRow w.heap.size 5 1 v' (bs.length + (uintN (clampN n)).length) ((bs ++ uintN (clampN n)).map (Value.int .u8)) ∧ Below w.heap.size w w' := by
  obtain ⟨m, hm⟩ : ∃ m : Nat, m = clampN n := ⟨_, rfl⟩
  rw [← hm]
  have hmb : m ≤ 4611686018427387904 := by rw [hm]; unfold clampN; omega
  have HMM := Lib.hid (show min (max n 0) 4611686018427387904 = (m : Int) by rw [hm]; unfold clampN; omega)
  have HMR := Lib.hid (show max (min n 4611686018427387904) 0 = (m : Int) ∧ max 0 (min n 4611686018427387904) = (m : Int) by rw [hm]; unfold clampN; omega)
  clear hm
  obtain ⟨i0, hi, hz0, hz1, hz2⟩ := info_parts info8c
  obtain ⟨va, vc, rfl, _, _⟩ := hs.shape
  simp only [List.length_map] at *
  go_enter Tryd.func53, Tryd.ntmps53
  go_wp2
  first | rw [HMR.out.2] | rw [HMR.out.1]
  clear HMM HMR
  go_loopw [1, 5] (fun i o wr => ∃ (k : Nat) (ov : Value), ov = o ∧ i = .int .i64 ((m / 256 ^ k : Nat) : Int) ∧ k ≤ 8 ∧ Hid (k = 0 ∨ 256 ^ (k - 1) ≤ m) ∧ wr.ownsRow w.heap.size 5 1 ov k ((offI m k).map (Value.int .u8)) ∧ Below w.heap.size w wr) (fun i _ _ => (intOf i).toNat)
  case atStart => exact ⟨0, _, rfl, by first | (simp; done) | (simp; omega), by omega, .inl rfl, World.ownsRow_nil _ _ _ _, Below.refl _ _⟩
  case round =>
    obtain ⟨k, ov, rfl, rfl, hk, hlow, hown, hbr⟩ := hrel
    have hnx : m / 256 ^ (k + 1) = m / 256 ^ k / 256 := by rw [Nat.pow_succ, Nat.div_div_eq_div_mul]
    have hdg : dig m k = ((m / 256 ^ k % 256 : Nat) : Int) := rfl
    have hge : 0 < m / 256 ^ k → 256 ^ k ≤ m := fun h => by
      rcases Nat.lt_or_ge m (256 ^ k) with h1 | h1
      · rw [Nat.div_eq_of_lt h1] at h; omega
      · exact h1
    have hlt : ¬ 0 < m / 256 ^ k → m < 256 ^ k := fun h => by
      rcases Nat.lt_or_ge m (256 ^ k) with h1 | h1
      · exact h1
      · have := (Nat.le_div_iff_mul_le (Nat.pow_pos (by decide : 0 < 256))).2 (by rw [Nat.one_mul]; exact h1); omega
    have hle : m / 256 ^ k ≤ m := Nat.div_le_self _ _
    generalize m / 256 ^ k = q at *
    by_cases hq : 0 < q
    · have hqI : (0 : Int) < (q : Int) := by omega
      have hqb : (q : Int) ≤ 4611686018427387904 := by omega
      have h256 := hge hq
      have hk7 : k + 1 ≤ 8 := by
        rcases Nat.lt_or_ge k 8 with h | h
        · omega
        · obtain rfl : k = 8 := by omega
          have : (256 : Nat) ^ 8 = 18446744073709551616 := by decide
          omega
      have hown0 : (wr.alloc (.cells #[.int .u8 ((q : Int) % 256)] 5)).ownsRow w.heap.size 5 1 (.slice (some ⟨wr.heap.size, 0, none⟩) 1 1) 1 [.int .u8 ((q : Int) % 256)] :=
        World.ownsRow_lit (base := w.heap.size) (e := 5) (size := 1) wr #[.int .u8 ((q : Int) % 256)] 1 hbr.size (by simp [maxLen]) (by simp)
      have hbA : Below wr.heap.size wr (wr.alloc (.cells #[.int .u8 ((q : Int) % 256)] 5)) := (Below.refl _ _).alloc (Nat.le_refl _) _
      have hso := (Sl.of_owns hown).below hbA (Nat.le_refl _)
      obtain ⟨oa, on, oc, rfl⟩ := hso.val
      have hbr2 := hbr.trans (hbA.mono hbr.size)
      have HS2 := Lib.hid hbr2.size
      have HX := Lib.hid (show Value.int .u8 ((q : Int) % 256) :: (offI m k).map (Value.int .u8) = (offI m (k + 1)).map (Value.int .u8) by rw [offI_succ, hdg]; simp)
      have HNX := Lib.hid hnx
      have HK := Lib.hid h256
      have hol := offI_len m k
      clear hge hlt hnx hdg hown hbA h256
      go_wp2_with (at_builtin; go_loud (refine wpList_append_sl rfl _ _ 25 rfl w.heap.size 5 i0 (.int .u8 0) 1 Tryd.underlying25 hi hz0 hz1 hz2 rfl _ _ _ rfl hown0 (.slice oa on oc) ((offI m k).map (Value.int .u8)) rfl hso (one8 _) (by rw [List.length_map, hol]; unfold maxLen; omega) (by rw [List.length_map, hol]; omega) HS2.out ?_))
      intro v5 w5 hown5 hg5
      have hb5 := below_grown hbr2 hown0 (Nat.le_refl _) HS2.out hg5
      clear hg5 hown0 hso
      rw [HX.out, Nat.add_comm 1 k] at hown5
      go_wp2
      exact ⟨⟨k + 1, _, rfl, by rw [HNX.out]; simp, hk7, .inr (by simpa using HK.out), hown5, hb5⟩, by simp [intOf]; omega⟩
    · have hqI : ¬ (0 : Int) < (q : Int) := by omega
      have hw := width_of k m (hlt hq) hlow.out (by omega)
      have HU := Lib.hid (show (k : Int) :: offI m k = uintN m by unfold uintN; rw [hw, offI_be])
      have hownA : (wr.alloc (.cells #[] 5)).ownsRow wr.heap.size 5 1 (.slice (some ⟨wr.heap.size, 0, none⟩) 0 0) 0 [] :=
        World.ownsRow_lit (base := wr.heap.size) (e := 5) (size := 1) wr #[] 0 (Nat.le_refl _) (by simp [maxLen]) (by simp)
      have hbA : Below wr.heap.size wr (wr.alloc (.cells #[] 5)) := (Below.refl _ _).alloc (Nat.le_refl _) _
      have hsA := (hs.below hbr (Nat.le_refl _)).below hbA (Nat.le_refl _)
      have hso := Sl.of_owns hown
      obtain ⟨oa, on, oc, rfl⟩ := hso.val
      have hon : on = k := by obtain ⟨_, _, he, _⟩ := hso; rw [List.length_map, offI_len] at he; injection he
      subst hon
      have hol := offI_len m on
      have HWS := Lib.hid (show wr.heap.size ≤ (wr.alloc (.cells #[] 5)).heap.size by simp)
      clear hge hlt hnx hdg hle hown
      go_wp2_with (at_builtin; go_loud (refine wpList_append_sl rfl _ _ 25 rfl wr.heap.size 5 i0 (.int .u8 0) 1 Tryd.underlying25 hi hz0 hz1 hz2 rfl _ _ _ rfl hownA (.slice va bs.length vc) (bs.map (Value.int .u8)) rfl hsA (one8 _) (by rw [List.length_map]; unfold maxLen; omega) (by rw [List.length_map]; omega) HWS.out ?_))
      intro v5 w5 hown5 hg5
      have hb5 := below_grown hbA hownA (Nat.le_refl _) HWS.out hg5
      have hsz5 := hb5.size
      clear hg5 hownA hsA HWS hbA
      go_wp2_with (at_builtin; go_loud (refine wpList_append_sl rfl _ _ 25 rfl wr.heap.size 5 i0 (.int .u8 0) 1 Tryd.underlying25 hi hz0 hz1 hz2 rfl _ _ _ rfl (hown5.alloc _) (.slice (some ⟨w5.heap.size, 0, none⟩) 1 1) ([(on : Int)].map (Value.int .u8)) rfl (Sl.litL w5 ([(on : Int)].map (Value.int .u8)) 5 (by simp [maxLen])) (one8 _) (by simp; unfold maxLen; omega) (by simp; omega) (by simp; omega) ?_))
      intro v6 w6 hown6 hg6
      have hb6 := below_grown (hb5.alloc hb5.size _) (hown5.alloc _) (Nat.le_refl _) (by simp; omega) hg6
      have hso6 := hso.below hb6 (Nat.le_refl _)
      have hsz6 := hb6.size
      clear hg6 hown5 hb5
      go_wp2_with (at_builtin; go_loud (refine wpList_append_sl rfl _ _ 25 rfl wr.heap.size 5 i0 (.int .u8 0) 1 Tryd.underlying25 hi hz0 hz1 hz2 rfl _ _ _ rfl hown6 (.slice oa on oc) ((offI m on).map (Value.int .u8)) rfl hso6 (one8 _) (by rw [List.length_map, hol]; unfold maxLen; simp; omega) (by rw [List.length_map, hol]; simp; omega) hsz6 ?_))
      intro v7 w7 hown7 hg7
      have hb7 := below_grown hb6 hown6 (Nat.le_refl _) hsz6 hg7
      have hlen : bs.length + 1 + on = bs.length + (uintN m).length := by rw [← HU.out, List.length_cons, offI_len]; omega
      have hlst : bs.map (Value.int .u8) ++ Value.int .u8 (on : Int) :: (offI m on).map (Value.int .u8) = (bs ++ uintN m).map (Value.int .u8) := by rw [← HU.out]; simp
      rw [hlen, hlst] at hown7
      have HF := Lib.hid (ownsRow_base hown7 hbr.size)
      have hbf := hbr.trans (hb7.mono hbr.size)
      clear hown7 hg7 hlen hlst hown6 hso6 hso
      go_wp2
      go_ret
      exact ⟨_, rfl, HF.out, hbf⟩

end Go.Proofs.YtjhannlioddkkaaDoor

namespace Go.Proofs.YtjhannlioddkkaaDoor
open Go.RowKit
set_option linter.unusedVariables false

set_option linter.unusedSimpArgs false in
set_option maxRecDepth 100000 in
set_option maxHeartbeats 2000000 in
theorem swrite_all (v : Value) (bs : List Int) (sv : Value) (idx : Int) (parts path : List (List Int)) (w : World) (cx : Int) (hcx : cx = (clampN idx : Int)) (hT : (sigTo bs cx parts path 2).length ≤ 100000000000000) (hs : Sl w v (bs.map (Value.int .u8))) (hg : SigV w sv idx parts path) :
    Calls Tryd.prog 14 #[v, sv] w fun e w' => ∃ x, e = .returned x ∧ w'.ownsRow w.heap.size 5 1 x (sigTo bs cx parts path 2).length ((sigTo bs cx parts path 2).map (Value.int .u8)) ∧ Below w.heap.size w w' := by
  obtain ⟨pa, pc, qa, qc, rfl⟩ := hg.val
  obtain ⟨g1, g2⟩ := hg.parts
  have hL0 : (sigTo bs cx parts path 0).length ≤ 100000000000000 := by unfold sigTo at hT ⊢; simp only [List.length_append] at hT ⊢; omega
  have hLp : parts.flatten.length ≤ 100000000000000 := by unfold sigTo at hT; simp only [List.length_append] at hT; omega
  have hLq : path.flatten.length ≤ 100000000000000 := by unfold sigTo at hT; simp only [List.length_append] at hT; omega
  have hL1 : (sigTo bs cx parts path 1).length ≤ 100000000000000 := by unfold sigTo at hT ⊢; simp only [List.length_append] at hT ⊢; omega
  have hb1 : Below w.heap.size w (w.alloc (.cells #[.int .i64 idx, .slice pa parts.length pc, .slice qa path.length qc] 24)) := (Below.refl _ _).alloc (Nat.le_refl _) _
  have kS := Blk.new w 24 #[.int .i64 idx, .slice pa parts.length pc, .slice qa path.length qc]
  have HU := Lib.hid (cuint_all v bs idx (w.alloc (.cells #[.int .i64 idx, .slice pa parts.length pc, .slice qa path.length qc] 24)) (by unfold sigTo at hL0; simp only [List.length_append] at hL0; omega) (hs.below hb1 (Nat.le_refl _)))
  rw [show clampN idx = cx.toNat from by rw [hcx, Int.toNat_natCast]] at HU
  clear hcx
  have HG1 := Lib.hid (fun w' (h : Below w.heap.size w w') => g1.below h (Nat.le_refl _))
  have HG2 := Lib.hid (fun w' (h : Below w.heap.size w w') => g2.below h (Nat.le_refl _))
  have HL0 := Lib.hid hL0
  have HL1 := Lib.hid hL1
  have HLp := Lib.hid hLp
  have HLq := Lib.hid hLq
  have HT := Lib.hid hT
  clear hs hg g1 g2 hT hL0 hL1 hLp hLq
  have x0 : ∀ w : World, (Instr.index 93 (.agg #[.slice pa parts.length pc, .slice qa path.length qc]) (.int .i64 0)).run Tryd.prog w = .ok (.slice pa parts.length pc) w := fun _ => by kernel_rfl
  have x1 : ∀ w : World, (Instr.index 93 (.agg #[.slice pa parts.length pc, .slice qa path.length qc]) (.int .i64 1)).run Tryd.prog w = .ok (.slice qa path.length qc) w := fun _ => by kernel_rfl
  go_enter Tryd.func14, Tryd.ntmps14
  go_wp2_with fail
  refine HU.out.mono ?_
  rintro e w2 ⟨x, rfl, hO, hb2⟩
  have hbr := below_trans2 hb1 hb2
  have hO : w2.ownsRow w.heap.size 5 1 x (sigTo bs cx parts path 0).length ((sigTo bs cx parts path 0).map (Value.int .u8)) := by
    rw [show (sigTo bs cx parts path 0).length = bs.length + (uintN cx.toNat).length from List.length_append]
    exact ownsRow_base hO (by simp)
  obtain ⟨c0, c1, c2⟩ := rec3 (kS.belowS hb2)
  clear HU hb1 hb2 kS
  obtain ⟨i0, hi, hz0, hz1, hz2⟩ := info_parts info8c
  go_wp2
  go_loopw [0, 16] (fun b i wr => ∃ (k : Nat) (bv : Value), bv = b ∧ k ≤ 2 ∧ i = .int .i64 k ∧ wr.ownsRow w.heap.size 5 1 bv (sigTo bs cx parts path k).length ((sigTo bs cx parts path k).map (Value.int .u8)) ∧ Below w.heap.size w wr) (fun _ i _ => 2 - (intOf i).toNat)
  case atStart => exact ⟨0, _, rfl, by omega, rfl, hO, hbr⟩
  case round =>
    clear hO hbr c0 c1 c2
    obtain ⟨k, bv, rfl, hk, rfl, hO, hbr⟩ := hrel
    obtain rfl | rfl | rfl : k = 0 ∨ k = 1 ∨ k = 2 := by omega
    all_goals clear hk
    all_goals simp only [Int.natCast_zero, Int.natCast_one, Int.cast_ofNat_Int]
    · have HC := Lib.hid (concat_any (.slice pa parts.length pc) parts wr HLp.out (HG1.out wr hbr))
      have HS := Lib.hid (show sigTo bs cx parts path (0 + 1) = sigTo bs cx parts path 0 ++ parts.flatten from rfl)
      have HQ := Lib.hid (show (sigTo bs cx parts path 0).length + parts.flatten.length ≤ 100000000000000 by have h := HL1.out; rw [show sigTo bs cx parts path 1 = sigTo bs cx parts path 0 ++ parts.flatten from rfl, List.length_append] at h; exact h)
      generalize sigTo bs cx parts path 0 = S0 at *
      generalize parts.flatten = P at *
      go_wp2_with fail
      refine HC.out.mono ?_
      rintro e w3 ⟨x3, rfl, ho3, hb3⟩
      have hs3 := Sl.of_owns ho3
      have hO3 := ownsRow_below hO hb3 (Nat.le_refl _)
      have hbr3 := below_trans2 hbr hb3
      obtain ⟨ua, un, uc, rfl⟩ := hs3.val
      go_wp2_with (at_builtin; refine wpList_append_sl rfl _ _ 25 rfl w.heap.size 5 i0 (.int .u8 0) 1 Tryd.underlying25 hi hz0 hz1 hz2 rfl _ S0.length (S0.map (Value.int .u8)) rfl hO3 (.slice ua un uc) (P.map (Value.int .u8)) rfl hs3 (one8 _) (by have h1 := HQ.out; rw [List.length_map]; unfold maxLen; omega) (by have h1 := HQ.out; rw [List.length_map]; omega) hbr3.size ?_)
      intro xv w4 hown4 hg4
      have hb4 := below_grown hbr3 hO3 (Nat.le_refl _) hbr3.size hg4
      rw [← List.length_append, ← List.map_append, ← HS.out] at hown4
      clear hO hO3 hs3 ho3 hbr hbr3 hb3
      go_wp2
      exact ⟨⟨1, xv, rfl, by omega, by go_num, hown4, hb4⟩, by simp [intOf]⟩
    · have HC := Lib.hid (concat_any (.slice qa path.length qc) path wr HLq.out (HG2.out wr hbr))
      have HS := Lib.hid (show sigTo bs cx parts path (1 + 1) = sigTo bs cx parts path 1 ++ path.flatten from rfl)
      have HQ := Lib.hid (show (sigTo bs cx parts path 1).length + path.flatten.length ≤ 100000000000000 by have h := HT.out; rw [show sigTo bs cx parts path 2 = sigTo bs cx parts path 1 ++ path.flatten from rfl, List.length_append] at h; exact h)
      generalize sigTo bs cx parts path 1 = S0 at *
      generalize path.flatten = P at *
      go_wp2_with fail
      refine HC.out.mono ?_
      rintro e w3 ⟨x3, rfl, ho3, hb3⟩
      have hs3 := Sl.of_owns ho3
      have hO3 := ownsRow_below hO hb3 (Nat.le_refl _)
      have hbr3 := below_trans2 hbr hb3
      obtain ⟨ua, un, uc, rfl⟩ := hs3.val
      go_wp2_with (at_builtin; refine wpList_append_sl rfl _ _ 25 rfl w.heap.size 5 i0 (.int .u8 0) 1 Tryd.underlying25 hi hz0 hz1 hz2 rfl _ S0.length (S0.map (Value.int .u8)) rfl hO3 (.slice ua un uc) (P.map (Value.int .u8)) rfl hs3 (one8 _) (by have h1 := HQ.out; rw [List.length_map]; unfold maxLen; omega) (by have h1 := HQ.out; rw [List.length_map]; omega) hbr3.size ?_)
      intro xv w4 hown4 hg4
      have hb4 := below_grown hbr3 hO3 (Nat.le_refl _) hbr3.size hg4
      rw [← List.length_append, ← List.map_append, ← HS.out] at hown4
      clear hO hO3 hs3 ho3 hbr hbr3 hb3
      go_wp2
      exact ⟨⟨2, xv, rfl, by omega, by go_num, hown4, hb4⟩, by simp [intOf]⟩
    · go_wp2
      go_ret
      exact ⟨_, rfl, hO, hbr⟩

set_option maxRecDepth 100000 in
set_option maxHeartbeats 4000000 in
theorem rswrite_all (v : Value) (bs : List Int) (sv : Value) (idx : Int) (parts path : List (List Int)) (w : World) (cx : Int) (hcx : cx = (clampN idx : Int)) (hT : (sigTo bs cx parts path 2).length ≤ 100000000000000) (hs : Sl w v (bs.map (Value.int .u8))) (hg : SigV w sv idx parts path) :
    Calls Tryd.prog 15 #[v, sv] w fun e w' => ∃ x, e = .returned x ∧ w'.ownsRow w.heap.size 5 1 x (sigTo bs cx parts path 2).length ((sigTo bs cx parts path 2).map (Value.int .u8)) ∧ Below w.heap.size w w' := by
  obtain ⟨pa, pc, qa, qc, rfl⟩ := hg.val
  obtain ⟨g1, g2⟩ := hg.parts
  have hS0 : sigTo bs cx parts path 2 = (sigTo bs cx parts path 0 ++ parts.flatten) ++ path.flatten := rfl
  have hLL : (sigTo bs cx parts path 0).length + parts.flatten.length + path.flatten.length ≤ 100000000000000 := by rw [hS0] at hT; simpa [Nat.add_assoc] using hT
  have hb1 : Below w.heap.size w (w.alloc (.cells #[.int .i64 idx, .slice pa parts.length pc, .slice qa path.length qc] 24)) := (Below.refl _ _).alloc (Nat.le_refl _) _
  have kS := Blk.new w 24 #[.int .i64 idx, .slice pa parts.length pc, .slice qa path.length qc]
  have hU0 : (sigTo bs cx parts path 0).length = bs.length + (uintN cx.toNat).length := List.length_append
  have HU := Lib.hid (ruint_all v bs idx (w.alloc (.cells #[.int .i64 idx, .slice pa parts.length pc, .slice qa path.length qc] 24)) (by omega) (hs.below hb1 (Nat.le_refl _)))
  rw [show clampN idx = cx.toNat from by rw [hcx, Int.toNat_natCast]] at HU
  clear hcx
  have HG1 := Lib.hid (fun w' (h : Below w.heap.size w w') => g1.below h (Nat.le_refl _))
  have HG2 := Lib.hid (fun w' (h : Below w.heap.size w w') => g2.below h (Nat.le_refl _))
  have HLL := Lib.hid hLL
  have HS0 := Lib.hid hS0
  have HPL := Lib.hid (show parts.length ≤ 9223372036854775807 by obtain ⟨_, _, _, h3, h4⟩ := g1.shape; exact Nat.le_trans h3 h4)
  have HQL := Lib.hid (show path.length ≤ 9223372036854775807 by obtain ⟨_, _, _, h3, h4⟩ := g2.shape; exact Nat.le_trans h3 h4)
  clear hs hg g1 g2 hT hLL hS0
  obtain ⟨i0, hi, hz0, hz1, hz2⟩ := info_parts info8c
  go_enter Tryd.func15, Tryd.ntmps15
  go_wp2_with fail
  refine HU.out.mono ?_
  rintro e w2 ⟨x, rfl, hO, hb2⟩
  have hbr := below_trans2 hb1 hb2
  have hO : w2.ownsRow w.heap.size 5 1 x (catTo (sigTo bs cx parts path 0) parts 0).length ((catTo (sigTo bs cx parts path 0) parts 0).map (Value.int .u8)) := by
    rw [catTo_zero, hU0]
    exact ownsRow_base hO (by simp)
  have kS := kS.belowS hb2
  obtain ⟨c0, c1, c2⟩ := rec3 kS
  generalize sigTo bs cx parts path 0 = S0 at *
  clear HU hb1 hb2 hU0
  have HKS := Lib.hid kS
  clear kS
  go_wp2
  go_loopw [5, 17] (fun b i wr => ∃ (k : Nat) (bv : Value), bv = b ∧ k ≤ parts.length ∧ i = .int .i64 k ∧ wr.ownsRow w.heap.size 5 1 bv (catTo S0 parts k).length ((catTo S0 parts k).map (Value.int .u8)) ∧ Below w.heap.size w wr ∧ Blk wr w.heap.size 24 #[.int .i64 idx, .slice pa parts.length pc, .slice qa path.length qc]) (fun _ i _ => parts.length - (intOf i).toNat)
  case atStart => exact ⟨0, _, rfl, by omega, rfl, hO, hbr, HKS.out⟩
  case round =>
    clear hO hbr c0 c1 c2
    obtain ⟨k, bv, rfl, hk, rfl, hO, hbr, kS⟩ := hrel
    by_cases hlt : k < parts.length
    · obtain ⟨b1, o1, rfl, hb1, u1, k1, t1⟩ := (HG1.out wr hbr).at hlt
      have hkI : (k : Int) < (parts.length : Int) := by omega
      have HSU := Lib.hid (catTo_succ S0 parts k hlt)
      have HCL := Lib.hid (show (catTo S0 parts k).length + (parts.getD k []).length ≤ 100000000000000 by
        have h1 := catTo_len S0 parts (k + 1)
        have h2 := HLL.out
        rw [catTo_succ S0 parts k hlt, List.length_append] at h1
        omega)
      have HKS := Lib.hid kS
      have HKW := Lib.hid (show wrap64 ((k : Int) + 1) = ((k + 1 : Nat) : Int) by have := HPL.out; unfold wrap64; omega)
      generalize parts.getD k [] = P at *
      generalize catTo S0 parts k = S1 at *
      obtain ⟨xa, xn, xc, rfl⟩ := t1.val
      clear kS hk
      go_wp2_with (at_builtin; refine wpList_append_sl rfl _ _ 25 rfl w.heap.size 5 i0 (.int .u8 0) 1 Tryd.underlying25 hi hz0 hz1 hz2 rfl _ S1.length (S1.map (Value.int .u8)) rfl hO (.slice xa xn xc) (P.map (Value.int .u8)) rfl t1 (one8 _) (by have h1 := HCL.out; rw [List.length_map]; unfold maxLen; omega) (by have h1 := HCL.out; rw [List.length_map]; omega) hbr.size ?_)
      intro xv w4 hown4 hg4
      have hb4 := below_grown hbr hO (Nat.le_refl _) hbr.size hg4
      have kS4 := HKS.out.grown hg4 (fun e => own_blk_ne hO HKS.out (by decide) e.symm)
      rw [← List.length_append, ← List.map_append, ← HSU.out] at hown4
      have HO4 := Lib.hid hown4
      clear hO hbr hown4 hg4
      go_wp2
      go_roundw
      case rel => exact ⟨k + 1, _, rfl, by omega, by rw [HKW.out], HO4.out, hb4, kS4⟩
      case measure => rw [HKW.out]; simp [intOf]; omega
    · obtain rfl : k = parts.length := by omega
      have hkI : ¬ (parts.length : Int) < (parts.length : Int) := by omega
      obtain ⟨c0, c1, c2⟩ := rec3 kS
      have hO2 : wr.ownsRow w.heap.size 5 1 bv (catTo (S0 ++ parts.flatten) path 0).length ((catTo (S0 ++ parts.flatten) path 0).map (Value.int .u8)) := by
        rw [catTo_zero, ← catTo_all]; exact hO
      have HLM := Lib.hid (show (S0 ++ parts.flatten).length + path.flatten.length ≤ 100000000000000 by have := HLL.out; rw [List.length_append]; omega)
      generalize S0 ++ parts.flatten = S2 at *
      have HKS := Lib.hid kS
      generalize wr = wz at *
      clear hO kS hlt hk
      go_wp2
      go_loopw [5, 28] (fun b i wr => ∃ (k : Nat) (bv : Value), bv = b ∧ k ≤ path.length ∧ i = .int .i64 k ∧ wr.ownsRow w.heap.size 5 1 bv (catTo S2 path k).length ((catTo S2 path k).map (Value.int .u8)) ∧ Below w.heap.size w wr) (fun _ i _ => path.length - (intOf i).toNat)
      case atStart => exact ⟨0, _, rfl, by omega, rfl, hO2, hbr⟩
      case round =>
        clear hO2 hbr c0 c1 c2
        obtain ⟨k, bv, rfl, hk, rfl, hO, hbr⟩ := hrel
        by_cases hlt : k < path.length
        · obtain ⟨b1, o1, rfl, hb1, u1, k1, t1⟩ := (HG2.out wr hbr).at hlt
          have hkI2 : (k : Int) < (path.length : Int) := by omega
          have HSU := Lib.hid (catTo_succ S2 path k hlt)
          have HCL := Lib.hid (show (catTo S2 path k).length + (path.getD k []).length ≤ 100000000000000 by
            have h1 := catTo_len S2 path (k + 1)
            have h2 := HLM.out
            rw [catTo_succ S2 path k hlt, List.length_append] at h1
            omega)
          have HKW := Lib.hid (show wrap64 ((k : Int) + 1) = ((k + 1 : Nat) : Int) by have := HQL.out; unfold wrap64; omega)
          generalize path.getD k [] = P at *
          generalize catTo S2 path k = S1 at *
          obtain ⟨xa, xn, xc, rfl⟩ := t1.val
          clear hk
          go_wp2_with (at_builtin; refine wpList_append_sl rfl _ _ 25 rfl w.heap.size 5 i0 (.int .u8 0) 1 Tryd.underlying25 hi hz0 hz1 hz2 rfl _ S1.length (S1.map (Value.int .u8)) rfl hO (.slice xa xn xc) (P.map (Value.int .u8)) rfl t1 (one8 _) (by have h1 := HCL.out; rw [List.length_map]; unfold maxLen; omega) (by have h1 := HCL.out; rw [List.length_map]; omega) hbr.size ?_)
          intro xv w4 hown4 hg4
          have hb4 := below_grown hbr hO (Nat.le_refl _) hbr.size hg4
          rw [← List.length_append, ← List.map_append, ← HSU.out] at hown4
          have HO4 := Lib.hid hown4
          clear hO hbr hown4 hg4
          go_wp2
          go_roundw
          case rel => exact ⟨k + 1, _, rfl, by omega, by rw [HKW.out], HO4.out, hb4⟩
          case measure => rw [HKW.out]; simp [intOf]; omega
        · obtain rfl : k = path.length := by omega
          have hkI2 : ¬ (path.length : Int) < (path.length : Int) := by omega
          have HF := Lib.hid (show wr.ownsRow w.heap.size 5 1 bv (sigTo bs cx parts path 2).length ((sigTo bs cx parts path 2).map (Value.int .u8)) by
            rw [HS0.out, ← catTo_all S2 path]; exact hO)
          clear hO
          go_wp2
          go_ret
          exact ⟨_, rfl, HF.out, hbr⟩

end Go.Proofs.YtjhannlioddkkaaDoor

namespace Go.Proofs.YtjhannlioddkkaaDoor
open Go.RowKit
set_option linter.unusedVariables false

theorem Sl.convS {w : World} {v : Value} {xs : List Int} (h : Sl w v (xs.map (Value.int .u8))) : ∀ n, (convert 25 9 v).run Tryd.prog (w.drewN n) = .ok (.string (strOfNums xs)) (w.drewN n) :=
  fun n => (h.below (below_drewN (Below.refl w.heap.size w) n) (Nat.le_refl _)).conv

set_option maxRecDepth 100000 in
set_option maxHeartbeats 2000000 in
theorem ssame_any (v1 v2 : Value) (idx : Int) (parts path : List (List Int)) (w : World) (h1 : SigV w v1 idx parts path) (h2 : SigV w v2 idx parts path) :
    Calls Tryd.prog 12 #[v1, v2] w fun e w' => e = .returned (.bool true) ∧ Below w.heap.size w w' := by
  obtain ⟨p1, q1, r1, s1, rfl⟩ := h1.val
  obtain ⟨p2, q2, r2, s2, rfl⟩ := h2.val
  obtain ⟨g1, g2⟩ := h1.parts
  obtain ⟨g3, g4⟩ := h2.parts
  have hb2 : Below w.heap.size w ((w.alloc (.cells #[.int .i64 idx, .slice p1 parts.length q1, .slice r1 path.length s1] 24)).alloc (.cells #[.int .i64 idx, .slice p2 parts.length q2, .slice r2 path.length s2] 24)) := ((Below.refl _ _).alloc (Nat.le_refl _) _).alloc (by simp) _
  have b1 : Blk ((w.alloc (.cells #[.int .i64 idx, .slice p1 parts.length q1, .slice r1 path.length s1] 24)).alloc (.cells #[.int .i64 idx, .slice p2 parts.length q2, .slice r2 path.length s2] 24)) w.heap.size 24 #[.int .i64 idx, .slice p1 parts.length q1, .slice r1 path.length s1] := (Blk.new w _ _).alloc _
  have b2 : Blk ((w.alloc (.cells #[.int .i64 idx, .slice p1 parts.length q1, .slice r1 path.length s1] 24)).alloc (.cells #[.int .i64 idx, .slice p2 parts.length q2, .slice r2 path.length s2] 24)) (w.heap.size + 1) 24 #[.int .i64 idx, .slice p2 parts.length q2, .slice r2 path.length s2] := by
    have := Blk.new (w.alloc (.cells #[.int .i64 idx, .slice p1 parts.length q1, .slice r1 path.length s1] 24)) 24 #[.int .i64 idx, .slice p2 parts.length q2, .slice r2 path.length s2]
    simpa using this
  have hpl : parts.length ≤ 9223372036854775807 := by obtain ⟨_, _, _, h3, h4⟩ := g1.shape; exact Nat.le_trans h3 h4
  have hql : path.length ≤ 9223372036854775807 := by obtain ⟨_, _, _, h3, h4⟩ := g2.shape; exact Nat.le_trans h3 h4
  have HG1 := Lib.hid (g1.below hb2 (Nat.le_refl _))
  have HG2 := Lib.hid (g2.below hb2 (Nat.le_refl _))
  have HG3 := Lib.hid (g3.below hb2 (Nat.le_refl _))
  have HG4 := Lib.hid (g4.below hb2 (Nat.le_refl _))
  have HB1 := Lib.hid b1
  have HB2 := Lib.hid b2
  have HBB := Lib.hid hb2
  clear h1 h2 g1 g2 g3 g4 b1 b2 hb2
  go_enter Tryd.func12, Tryd.ntmps12
  go_upto_region 1 with (fail)
  generalize ((w.alloc (.cells #[.int .i64 idx, .slice p1 parts.length q1, .slice r1 path.length s1] 24)).alloc (.cells #[.int .i64 idx, .slice p2 parts.length q2, .slice r2 path.length s2] 24)) = W at *
  obtain ⟨c0, c1, c2⟩ := rec3 HB1.out
  obtain ⟨e0, e1, e2⟩ := rec3 HB2.out
  have HST := Lib.hid (Below.refl W.heap.size W)
  go_wp2
  go_loopw [33] (fun i wr => ∃ k : Nat, k ≤ parts.length ∧ i = .int .i64 k ∧ Below W.heap.size W wr) (fun i _ => parts.length - (intOf i).toNat)
  case atStart => exact ⟨0, by omega, rfl, HST.out⟩
  case round =>
    clear c0 c1 c2 e0 e1 e2
    obtain ⟨k, hk, rfl, hbr⟩ := hrel
    by_cases hlt : k < parts.length
    · obtain ⟨b1, o1, rfl, hb1, u1, k1, t1⟩ := (HG1.out.below hbr (Nat.le_refl _)).at hlt
      obtain ⟨b2, o2, rfl, hb2, u2, k2, t2⟩ := (HG3.out.below hbr (Nat.le_refl _)).at hlt
      have hkI : (k : Int) < (parts.length : Int) := by omega
      have c9 := (rec3 (HB1.out.belowS hbr)).2.1
      have e9 := (rec3 (HB2.out.belowS hbr)).2.1
      have HBR := Lib.hid hbr
      generalize parts.getD k [] = P at *
      have cv1 := t1.convS
      have cv2 := t2.convS
      obtain ⟨xa, xn, xc, rfl⟩ := t1.val
      obtain ⟨ya, yn, yc, rfl⟩ := t2.val
      clear t1 t2 hbr
      go_wp2
      go_quiet (fail)
      have hbr := below_drewN HBR.out nq
      generalize wr.drewN nq = w2 at *
      go_wp2
      go_roundw
      case rel => exact ⟨k + 1, by omega, by go_num, hbr⟩
      case measure => simp [intOf]; omega
    · have hkI : ¬ (k : Int) < (parts.length : Int) := by omega
      generalize wr = wz at *
      obtain ⟨c0, c1, c2⟩ := rec3 (HB1.out.belowS hbr)
      obtain ⟨e0, e1, e2⟩ := rec3 (HB2.out.belowS hbr)
      have HST := Lib.hid hbr
      clear hbr hk hlt
      go_wp2
      go_loopw [53] (fun i wr => ∃ k : Nat, k ≤ path.length ∧ i = .int .i64 k ∧ Below W.heap.size W wr) (fun i _ => path.length - (intOf i).toNat)
      case atStart => exact ⟨0, by omega, rfl, HST.out⟩
      case round =>
        clear c0 c1 c2 e0 e1 e2
        obtain ⟨m, hk, rfl, hbr⟩ := hrel
        by_cases hlt : m < path.length
        · obtain ⟨b1, o1, rfl, hb1, u1, k1, t1⟩ := (HG2.out.below hbr (Nat.le_refl _)).at hlt
          obtain ⟨b2, o2, rfl, hb2, u2, k2, t2⟩ := (HG4.out.below hbr (Nat.le_refl _)).at hlt
          have hkI : (m : Int) < (path.length : Int) := by omega
          have c9 := (rec3 (HB1.out.belowS hbr)).2.2
          have e9 := (rec3 (HB2.out.belowS hbr)).2.2
          have HBR := Lib.hid hbr
          generalize path.getD m [] = P at *
          have cv1 := t1.convS
          have cv2 := t2.convS
          obtain ⟨xa, xn, xc, rfl⟩ := t1.val
          obtain ⟨ya, yn, yc, rfl⟩ := t2.val
          clear t1 t2 hbr
          go_wp2
          go_quiet (fail)
          have hbr := below_drewN HBR.out nq
          generalize wr.drewN nq = w2 at *
          go_wp2
          go_roundw
          case rel => exact ⟨m + 1, by omega, by go_num, hbr⟩
          case measure => simp [intOf]; omega
        · have hkI2 : ¬ (m : Int) < (path.length : Int) := by omega
          have hbb := below_trans2 HBB.out hbr
          clear hbr
          go_wp2
          go_ret
          exact ⟨rfl, hbb⟩

end Go.Proofs.YtjhannlioddkkaaDoor

namespace Go.Proofs.YtjhannlioddkkaaDoor
open Go.RowKit
set_option linter.unusedVariables false

def canB (size : Int) (n : Nat) (idx : Int) : Bool := decide (1 ≤ size ∧ size ≤ 32 ∧ n ≤ 64 ∧ 0 ≤ idx ∧ idx < 256)
/-- A chain's beginning. -/
def secI (size : Int) (seed : List Int) (idx i : Int) : List Int := if canB size seed.length idx then hashT size 6 [seed, numI idx, numI i] else []

theorem secI_isB (size : Int) (seed : List Int) (idx i : Int) : IsB (secI size seed idx i) := by
  unfold secI; split
  · exact hashT_isB' _ _ _
  · intro x hx; cases hx
theorem secI_len (size : Int) (seed : List Int) (idx i : Int) : (secI size seed idx i).length ≤ 32 := by
  unfold secI; split
  · exact hashT_len _ _ _
  · simp

theorem chains_any (n : Nat) (w : World) (h : n ≤ 1000) : Calls Tryd.prog 204 #[.int .i64 n] w fun e w' => e = .returned (.int .i64 (4 * n + 5 : Nat)) ∧ w = w' := by
  have hI : (n : Int) ≤ 1000 := by omega
  go_enter Tryd.func204, Tryd.ntmps204
  go_wp2
  go_ret
  exact ⟨ret_int (by omega), rfl⟩

theorem can_any (size : Int) (v : Value) (bs : List Int) (idx : Int) (w : World) (hs : Sl w v (bs.map (Value.int .u8))) :
    Calls Tryd.prog 182 #[.int .i64 size, v, .int .i64 idx] w fun e w' => e = .returned (.bool (canB size bs.length idx)) ∧ w = w' := by
  obtain ⟨b, hb⟩ : ∃ b, b = canB size bs.length idx := ⟨_, rfl⟩
  rw [← hb]
  have HB := Lib.hid hb
  clear hb
  obtain ⟨a, cap, rfl, hc, hm⟩ := hs.shape
  rw [List.length_map] at *
  by_cases h0 : 1 ≤ size
  ·
    by_cases h1 : size ≤ 32
    ·
      by_cases h2 : bs.length ≤ 64
      ·
        by_cases h3 : 0 ≤ idx
        ·
          by_cases h4 : idx < 256
          ·
            go_enter Tryd.func182, Tryd.ntmps182
            go_wp2
            go_ret
            exact ⟨ret_bool (by rw [HB.out]; unfold canB; first | exact (decide_eq_true (by omega)).symm | exact (decide_eq_false (by omega)).symm), rfl⟩
          ·
            go_enter Tryd.func182, Tryd.ntmps182
            go_wp2
            go_ret
            exact ⟨ret_bool (by rw [HB.out]; unfold canB; first | exact (decide_eq_true (by omega)).symm | exact (decide_eq_false (by omega)).symm), rfl⟩
        ·
          go_enter Tryd.func182, Tryd.ntmps182
          go_wp2
          go_ret
          exact ⟨ret_bool (by rw [HB.out]; unfold canB; first | exact (decide_eq_true (by omega)).symm | exact (decide_eq_false (by omega)).symm), rfl⟩
      ·
        go_enter Tryd.func182, Tryd.ntmps182
        go_wp2
        go_ret
        exact ⟨ret_bool (by rw [HB.out]; unfold canB; first | exact (decide_eq_true (by omega)).symm | exact (decide_eq_false (by omega)).symm), rfl⟩
    ·
      go_enter Tryd.func182, Tryd.ntmps182
      go_wp2
      go_ret
      exact ⟨ret_bool (by rw [HB.out]; unfold canB; first | exact (decide_eq_true (by omega)).symm | exact (decide_eq_false (by omega)).symm), rfl⟩
  ·
    go_enter Tryd.func182, Tryd.ntmps182
    go_wp2
    go_ret
    exact ⟨ret_bool (by rw [HB.out]; unfold canB; first | exact (decide_eq_true (by omega)).symm | exact (decide_eq_false (by omega)).symm), rfl⟩


set_option maxHeartbeats 400000 in
theorem secret_any (size : Int) (v : Value) (bs : List Int) (idx i : Int) (w : World) (hx0 : -9223372036854775808 ≤ idx) (hx1 : idx ≤ 9223372036854775807) (hi0 : -9223372036854775808 ≤ i) (hi1 : i ≤ 9223372036854775807) (hB : IsB bs) (hs : Sl w v (bs.map (Value.int .u8))) (ht : Tabs w) :
    Calls Tryd.prog 186 #[.int .i64 size, v, .int .i64 idx, .int .i64 i] w fun e w' => ∃ x, e = .returned x ∧ Sl w' x ((secI size bs idx i).map (Value.int .u8)) ∧ Below w.heap.size w w' := by
  have HC := Lib.hid (can_any size v bs idx w hs)
  obtain ⟨va, vn, vc, rfl⟩ := hs.val
  have HS := Lib.hid (show secI size bs idx i = if canB size bs.length idx then hashT size 6 [bs, numI idx, numI i] else [] from rfl)
  generalize canB size bs.length idx = cb at *
  cases cb with
  | false =>
    go_enter Tryd.func186, Tryd.ntmps186
    go_wp2_with fail
    refine HC.out.mono ?_
    rintro e w1 ⟨rfl, rfl⟩
    go_wp2
    go_ret
    exact ⟨_, rfl, by rw [HS.out, if_neg (by decide)]; exact Sl.nil _, Below.refl _ _⟩
  | true =>
    rw [if_pos rfl] at HS
    go_enter Tryd.func186, Tryd.ntmps186
    go_wp2_with fail
    refine HC.out.mono ?_
    rintro e w1 ⟨rfl, rfl⟩
    go_wp2_with fail
    refine (number_any idx w hx0 hx1).mono ?_
    rintro e w2 ⟨n1, rfl, hn1, hb2⟩
    have hs := hs.below hb2 (Nat.le_refl _)
    have ht := ht.below hb2
    go_wp2_with fail
    refine (number_any i w2 hi0 hi1).mono ?_
    rintro e w3 ⟨n2, rfl, hn2, hb3⟩
    have hs := hs.below hb3 (Nat.le_refl _)
    have hn1 := hn1.below hb3 (Nat.le_refl _)
    have ht := ht.below hb3
    have hb3 := below_trans2 hb2 hb3
    clear hb2
    obtain ⟨a1, l1, c1, rfl⟩ := hn1.val
    obtain ⟨a2, l2, c2, rfl⟩ := hn2.val
    have hL := Sls.litA _ 25 (show SlAll w3 [.slice va vn vc, .slice a1 l1 c1, .slice a2 l2 c2] [bs, numI idx, numI i] from ⟨hs, hn1, hn2, trivial⟩) (by simp [maxLen])
    have hbA := hb3.alloc hb3.size (.cells #[.slice va vn vc, .slice a1 l1 c1, .slice a2 l2 c2] 25)
    have htA := ht.below ((Below.refl _ _).alloc (Nat.le_refl _) (.cells #[.slice va vn vc, .slice a1 l1 c1, .slice a2 l2 c2] 25))
    have HH := Lib.hid (hash_any size 6 _ _ _ (by simp) (by decide) (by decide) hL (fun p hp => by
      simp only [List.mem_cons, List.not_mem_nil, or_false] at hp
      rcases hp with rfl | rfl | rfl
      · exact hB
      · exact numI_isB _
      · exact numI_isB _) htA)
    rw [← HS.out] at HH
    clear hL htA ht hs hn1 hn2 hb3
    go_wp2_with fail
    refine HH.out.mono ?_
    rintro e w5 ⟨y, rfl, hy, hb5⟩
    have hbr := hbA.trans (hb5.mono hbA.size)
    go_wp2
    go_ret
    exact ⟨_, rfl, hy, hbr⟩


end Go.Proofs.YtjhannlioddkkaaDoor

namespace Go.Proofs.YtjhannlioddkkaaDoor
open Go.RowKit
set_option linter.unusedVariables false

end Go.Proofs.YtjhannlioddkkaaDoor

namespace Go.Proofs.YtjhannlioddkkaaDoor
open Go.RowKit
set_option linter.unusedVariables false

/-- The first k chains' values of a signature. -/
def sgU (size : Int) (seed : List Int) (idx : Int) (dd : List Int) (k : Nat) : List (List Int) := (List.range k).map fun (i : Nat) => chI size idx i 0 (secI size seed idx i) (dd.getD i 0).toNat
theorem sgU_succ (size : Int) (seed : List Int) (idx : Int) (dd : List Int) (k : Nat) : sgU size seed idx dd (k + 1) = sgU size seed idx dd k ++ [chI size idx k 0 (secI size seed idx k) (dd.getD k 0).toNat] := by
  unfold sgU; rw [List.range_succ, List.map_append]; rfl
theorem sgU_len (size : Int) (seed : List Int) (idx : Int) (dd : List Int) (k : Nat) : (sgU size seed idx dd k).length = k := by simp [sgU]
def signE (size : Int) (n : Nat) (idx : Int) (m : Nat) : Int := if canB size n idx = true ∧ (m : Int) = size then 0 else 1
def signL (size : Int) (seed : List Int) (idx : Int) (dg : List Int) : List (List Int) := if canB size seed.length idx = true ∧ (dg.length : Int) = size then sgU size seed idx (digitsOf dg) (4 * dg.length + 5) else []


theorem chain0_any (size : Int) (v : Value) (bs : List Int) (idx i : Int) (te : Nat) (w : World) (hx0 : -9223372036854775808 ≤ idx) (hx1 : idx ≤ 9223372036854775807) (hi0 : -9223372036854775808 ≤ i) (hi1 : i ≤ 9223372036854775807) (h2 : te ≤ 3) (hn : bs.length ≤ 140737488351232) (hB : IsB bs) (hs : Sl w v (bs.map (Value.int .u8))) (ht : Tabs w) :
    Calls Tryd.prog 185 #[.int .i64 size, v, .int .i64 idx, .int .i64 i, .int .i64 0, .int .i64 te] w fun e w' => ∃ x, e = .returned x ∧ Sl w' x ((chI size idx i 0 bs te).map (Value.int .u8)) ∧ Below w.heap.size w w' := by
  have h := chain_any size v bs idx i 0 te w hx0 hx1 hi0 hi1 (by omega) hn hB hs ht
  rw [show max (0 : Int) 0 = 0 by omega, show (min (te : Int) 3 - 0).toNat = te by omega] at h
  exact h

theorem chain3_any (size : Int) (v : Value) (bs : List Int) (idx i : Int) (fr : Nat) (w : World) (hx0 : -9223372036854775808 ≤ idx) (hx1 : idx ≤ 9223372036854775807) (hi0 : -9223372036854775808 ≤ i) (hi1 : i ≤ 9223372036854775807) (h2 : fr ≤ 3) (hn : bs.length ≤ 140737488351232) (hB : IsB bs) (hs : Sl w v (bs.map (Value.int .u8))) (ht : Tabs w) :
    Calls Tryd.prog 185 #[.int .i64 size, v, .int .i64 idx, .int .i64 i, .int .i64 fr, .int .i64 3] w fun e w' => ∃ x, e = .returned x ∧ Sl w' x ((chI size idx i fr bs (3 - fr)).map (Value.int .u8)) ∧ Below w.heap.size w w' := by
  have h := chain_any size v bs idx i fr 3 w hx0 hx1 hi0 hi1 (by omega) hn hB hs ht
  rw [show max (fr : Int) 0 = fr by omega, show (min (3 : Int) 3 - fr).toNat = 3 - fr by omega] at h
  exact h

theorem chain03_any (size : Int) (v : Value) (bs : List Int) (idx i : Int) (w : World) (hx0 : -9223372036854775808 ≤ idx) (hx1 : idx ≤ 9223372036854775807) (hi0 : -9223372036854775808 ≤ i) (hi1 : i ≤ 9223372036854775807) (hn : bs.length ≤ 140737488351232) (hB : IsB bs) (hs : Sl w v (bs.map (Value.int .u8))) (ht : Tabs w) :
    Calls Tryd.prog 185 #[.int .i64 size, v, .int .i64 idx, .int .i64 i, .int .i64 0, .int .i64 3] w fun e w' => ∃ x, e = .returned x ∧ Sl w' x ((chI size idx i 0 bs 3).map (Value.int .u8)) ∧ Below w.heap.size w w' := by
  have h := chain_any size v bs idx i 0 3 w hx0 hx1 hi0 hi1 (by omega) hn hB hs ht
  rw [show max (0 : Int) 0 = 0 by omega, show (min (3 : Int) 3 - 0).toNat = 3 by omega] at h
  exact h


end Go.Proofs.YtjhannlioddkkaaDoor

namespace Go.Proofs.YtjhannlioddkkaaDoor
open Go.RowKit
set_option linter.unusedVariables false

def catI (f : Nat → List Int) : Nat → List Int
  | 0 => []
  | n + 1 => catI f n ++ f n
theorem catI_isB {f : Nat → List Int} (h : ∀ i, IsB (f i)) : ∀ n, IsB (catI f n)
  | 0 => fun x hx => by cases hx
  | n + 1 => (catI_isB h n).append (h n)
theorem catI_len {f : Nat → List Int} (h : ∀ i, (f i).length ≤ 32) : ∀ n, (catI f n).length ≤ 32 * n
  | 0 => by simp [catI]
  | n + 1 => by have := catI_len h n; have := h n; simp only [catI, List.length_append]; omega
theorem catI_congr {f g : Nat → List Int} : ∀ n, (∀ i, i < n → f i = g i) → catI f n = catI g n
  | 0, _ => rfl
  | n + 1, h => by simp only [catI]; rw [catI_congr n (fun i hi => h i (by omega)), h n (by omega)]


set_option maxRecDepth 100000 in
set_option maxHeartbeats 1000000 in
theorem endKey_any (c1 c2 c3 : Nat) (n : Nat) (hn : n ≤ 100) (idx : Int) (hx0 : -9223372036854775808 ≤ idx) (hx1 : idx ≤ 9223372036854775807) (f : Nat → List Int) (hf : ∀ i, IsB (f i)) (hfl : ∀ i, (f i).length ≤ 32) (I : World → Prop) (hI : ∀ w w', I w → Below w.heap.size w w' → I w')
    (hK : ∀ (i : Nat) (w : World), i < 4 * n + 5 → I w → Calls Tryd.prog 184 #[.int .i64 i, .pointer (some ⟨c1, 0, none⟩), .pointer (some ⟨c2, 0, none⟩), .pointer (some ⟨c3, 0, none⟩)] w fun e w' => ∃ x, e = .returned x ∧ Sl w' x ((f i).map (Value.int .u8)) ∧ Below w.heap.size w w') (w : World) (hIw : I w) (ht : Tabs w) :
    Calls Tryd.prog 183 #[.int .i64 n, .int .i64 idx, .func (.func 184) #[] #[.pointer (some ⟨c1, 0, none⟩), .pointer (some ⟨c2, 0, none⟩), .pointer (some ⟨c3, 0, none⟩)]] w fun e w' => ∃ x, e = .returned x ∧ Sl w' x ((hashT n 8 [numI idx, catI f (4 * n + 5)]).map (Value.int .u8)) ∧ Below w.heap.size w w' := by
  obtain ⟨i0, hi, hz0, hz1, hz2⟩ := info_parts info8c
  have HFL := Lib.hid (catI_len hfl)
  have HF1 := Lib.hid hfl
  clear hfl
  go_enter Tryd.func183, Tryd.ntmps183
  go_wp2_with fail
  refine (chains_any n w (by omega)).mono ?_
  rintro e w1 ⟨rfl, rfl⟩
  go_wp2
  go_loopw [7, 11] (fun l i wr => ∃ (k : Nat) (lv : Value), lv = l ∧ k ≤ 4 * n + 5 ∧ i = .int .i64 k ∧ wr.ownsRow w.heap.size 5 1 lv (catI f k).length ((catI f k).map (Value.int .u8)) ∧ Below w.heap.size w wr) (fun _ i _ => 4 * n + 5 - (intOf i).toNat)
  case atStart => exact ⟨0, _, rfl, by omega, rfl, World.ownsRow_nil _ _ _ _, Below.refl _ _⟩
  case round =>
    obtain ⟨k, l, rfl, hk, rfl, hown, hbr⟩ := hrel
    by_cases hlt : k < 4 * n + 5
    · have hkI : (k : Int) < ((4 * n + 5 : Nat) : Int) := by omega
      have HLN := Lib.hid (show (catI f k).length + (f k).length ≤ 100000 by have := HFL.out k; have := HF1.out k; omega)
      go_wp2_with fail
      refine (hK k wr hlt (hI _ _ hIw hbr)).mono ?_
      rintro e w2 ⟨x, rfl, hx, hb2⟩
      have hown := ownsRow_below hown hb2 (Nat.le_refl _)
      have hbr := hbr.trans (hb2.mono hbr.size)
      clear hb2
      obtain ⟨xa, xn, xc, rfl⟩ := hx.val
      go_wp2_with (at_builtin; refine wpList_append_sl rfl _ _ 25 rfl w.heap.size 5 i0 (.int .u8 0) 1 Tryd.underlying25 hi hz0 hz1 hz2 rfl _ _ _ rfl hown (.slice xa xn xc) ((f k).map (Value.int .u8)) rfl hx (one8 _) (by have := HLN.out; rw [List.length_map]; unfold maxLen; omega) (by have := HLN.out; rw [List.length_map]; omega) hbr.size ?_)
      intro v3 w3 hown3 hg3
      have hb3 := below_grown hbr hown (Nat.le_refl _) hbr.size hg3
      clear hg3 hown hx hbr
      go_wp2
      go_roundw
      case rel => exact ⟨k + 1, v3, rfl, by omega, by go_num, by simpa [catI] using hown3, hb3⟩
      case measure => simp [intOf]; omega
    · obtain rfl : k = 4 * n + 5 := by omega
      have hkI : ¬ ((4 * n + 5 : Nat) : Int) < ((4 * n + 5 : Nat) : Int) := by omega
      have hs := Sl.of_owns hown
      have hCB := catI_isB hf (4 * n + 5)
      have htr := ht.below hbr
      obtain ⟨C, hC⟩ : ∃ C, C = catI f (4 * n + 5) := ⟨_, rfl⟩
      rw [← hC] at hs hCB
      have HCe := Lib.hid hC
      clear hC
      obtain ⟨va, vn, vc, rfl⟩ := hs.val
      clear hown hIw hK hI hf
      go_wp2_with fail
      refine (number_any idx wr hx0 hx1).mono ?_
      rintro e w2 ⟨n1, rfl, hn1, hb2⟩
      have hs := hs.below hb2 (Nat.le_refl _)
      have htr := htr.below hb2
      have hbr := hbr.trans (hb2.mono hbr.size)
      obtain ⟨a1, m1, d1, rfl⟩ := hn1.val
      have hL := Sls.litA _ 25 (show SlAll w2 [.slice a1 m1 d1, .slice va vn vc] [numI idx, C] from ⟨hn1, hs, trivial⟩) (by simp [maxLen])
      have hb0 : Below w2.heap.size w2 (w2.alloc (.cells #[.slice a1 m1 d1, .slice va vn vc] 25)) := (Below.refl _ _).alloc (Nat.le_refl _) _
      have hbA := hbr.trans (hb0.mono hbr.size)
      have htA := htr.below hb0
      have HH := Lib.hid (hash_any n 8 _ _ _ (by simp) (by decide) (by decide) hL (fun p hp => by
        simp only [List.mem_cons, List.not_mem_nil, or_false] at hp
        rcases hp with rfl | rfl
        · exact numI_isB _
        · exact hCB) htA)
      clear hL hs hn1 hb2 hb0 htA htr hCB hbr
      go_wp2_with fail
      refine HH.out.mono ?_
      rintro e w5 ⟨y, rfl, hy, hb5⟩
      have hbr := hbA.trans (hb5.mono hbA.size)
      go_wp2
      go_ret
      exact ⟨_, rfl, by rw [← HCe.out]; exact hy, hbr⟩


/-- A chain's end, from its beginning on. -/
def endK (size : Int) (seed : List Int) (idx : Int) (i : Nat) : List Int := chI size idx i 0 (secI size seed idx i) 3
theorem endK_isB (size : Int) (seed : List Int) (idx : Int) (i : Nat) : IsB (endK size seed idx i) := chI_isB _ _ _ _ _ (secI_isB _ _ _ _) _
theorem endK_len (size : Int) (seed : List Int) (idx : Int) (i : Nat) : (endK size seed idx i).length ≤ 32 := by
  have := chI_len size idx i 0 (secI size seed idx i) 3; have := secI_len size seed idx i; unfold endK; omega

set_option maxRecDepth 100000 in
set_option maxHeartbeats 1000000 in
theorem key1_any (size : Int) (v : Value) (seed : List Int) (idx : Int) (i : Nat) (c1 c2 c3 : Nat) (w : World) (hx0 : -9223372036854775808 ≤ idx) (hx1 : idx ≤ 9223372036854775807) (hi : i ≤ 1000)
    (k1 : Blk w c1 3 #[.int .i64 size]) (k2 : Blk w c2 25 #[v]) (k3 : Blk w c3 3 #[.int .i64 idx]) (hB : IsB seed) (hs : Sl w v (seed.map (Value.int .u8))) (ht : Tabs w) :
    Calls Tryd.prog 184 #[.int .i64 i, .pointer (some ⟨c1, 0, none⟩), .pointer (some ⟨c2, 0, none⟩), .pointer (some ⟨c3, 0, none⟩)] w fun e w' => ∃ x, e = .returned x ∧ Sl w' x ((endK size seed idx i).map (Value.int .u8)) ∧ Below w.heap.size w w' := by
  obtain ⟨va, vn, vc, rfl⟩ := hs.val
  have q1 : w.cell? ⟨c1, 0, none⟩ = some (.int .i64 size) := k1.cell 0
  have q2 : w.cell? ⟨c2, 0, none⟩ = some (.slice va vn vc) := k2.cell 0
  have q3 : w.cell? ⟨c3, 0, none⟩ = some (.int .i64 idx) := k3.cell 0
  have l1 := k1.lt
  have l2 := k2.lt
  have l3 := k3.lt
  have HS := Lib.hid (fun w1 (h : Below w.heap.size w w1) => secret_any size (.slice va vn vc) seed idx i w1 hx0 hx1 (by omega) (by omega) hB (hs.below h (Nat.le_refl _)) (ht.below h))
  have HT := Lib.hid (fun w1 (h : Below w.heap.size w w1) => ht.below h)
  clear k1 k2 k3 hs ht
  go_enter Tryd.func184, Tryd.ntmps184
  go_wp2
  go_region_held3 (fun w' => w'.cell? ⟨c1, 0, none⟩ = some (.int .i64 size) ∧ w'.cell? ⟨c2, 0, none⟩ = some (.slice va vn vc) ∧ w'.cell? ⟨c3, 0, none⟩ = some (.int .i64 idx))
    (first | exact ⟨q1, q2, q3⟩ | exact ⟨(hb1.cell (p := ⟨c1, 0, none⟩) l1).trans q1, (hb1.cell (p := ⟨c2, 0, none⟩) l2).trans q2, (hb1.cell (p := ⟨c3, 0, none⟩) l3).trans q3⟩ | exact ⟨((hb2.cell (p := ⟨c1, 0, none⟩) (Nat.lt_of_lt_of_le l1 hb1.size)).trans (hb1.cell (p := ⟨c1, 0, none⟩) l1)).trans q1, ((hb2.cell (p := ⟨c2, 0, none⟩) (Nat.lt_of_lt_of_le l2 hb1.size)).trans (hb1.cell (p := ⟨c2, 0, none⟩) l2)).trans q2, ((hb2.cell (p := ⟨c3, 0, none⟩) (Nat.lt_of_lt_of_le l3 hb1.size)).trans (hb1.cell (p := ⟨c3, 0, none⟩) l3)).trans q3⟩)
    (first | (go_at_call 186; refine (HS.out _ (by first | exact Below.refl _ _ | exact (Below.refl _ _).drew)).mono ?_; rintro e w1 ⟨x1, rfl, hx1', hb1⟩; have hb1 : Below w.heap.size w w1 := ⟨hb1.os, hb1.tape, hb1.output, hb1.size, hb1.block⟩) | (go_at_call 185; refine (chain03_any size x1 _ idx i w1 hx0 hx1 (by omega) (by omega) (by have := secI_len size seed idx i; omega) (secI_isB _ _ _ _) hx1' (HT.out _ hb1)).mono ?_; rintro e w2 ⟨x2, rfl, hx2, hb2⟩))
  go_wp2
  go_ret
  exact ⟨_, rfl, hx2, below_trans2 hb1 hb2⟩

/-- What Key returns. -/
def keyE (size : Int) (n : Nat) (idx : Int) : Int := if canB size n idx = true then 0 else 1
def keyL (size : Int) (seed : List Int) (idx : Int) : List Int := if canB size seed.length idx = true then hashT size 8 [numI idx, catI (endK size seed idx) (4 * size.toNat + 5)] else []
theorem keyL_isB (size : Int) (seed : List Int) (idx : Int) : IsB (keyL size seed idx) := by
  unfold keyL; split
  · exact hashT_isB' _ _ _
  · intro x hx; cases hx

set_option maxRecDepth 100000 in
set_option maxHeartbeats 1000000 in
theorem key_any (size : Int) (v : Value) (seed : List Int) (idx : Int) (w : World) (hx0 : -9223372036854775808 ≤ idx) (hx1 : idx ≤ 9223372036854775807) (hB : IsB seed) (hs : Sl w v (seed.map (Value.int .u8))) (ht : Tabs w) :
    Calls Tryd.prog 146 #[.int .i64 size, v, .int .i64 idx] w fun e w' => ∃ x, e = .returned (.tuple #[x, .int .i64 (keyE size seed.length idx)]) ∧ Sl w' x ((keyL size seed idx).map (Value.int .u8)) ∧ Below w.heap.size w w' := by
  obtain ⟨va, vn, vc, rfl⟩ := hs.val
  have HC := Lib.hid (fun w1 (h : Below w.heap.size w w1) => can_any size (.slice va vn vc) seed idx w1 (hs.below h (Nat.le_refl _)))
  have HE := Lib.hid (show keyE size seed.length idx = if canB size seed.length idx = true then 0 else 1 from rfl)
  have HL := Lib.hid (show keyL size seed idx = if canB size seed.length idx = true then hashT size 8 [numI idx, catI (endK size seed idx) (4 * size.toNat + 5)] else [] from rfl)
  have hb3 : Below w.heap.size w (((w.alloc (.cells #[.int .i64 size] 3)).alloc (.cells #[.slice va vn vc] 25)).alloc (.cells #[.int .i64 idx] 3)) := (((Below.refl _ _).alloc (Nat.le_refl _) _).alloc (by simp) _).alloc (by simp; omega) _
  have k1 : Blk (((w.alloc (.cells #[.int .i64 size] 3)).alloc (.cells #[.slice va vn vc] 25)).alloc (.cells #[.int .i64 idx] 3)) w.heap.size 3 #[.int .i64 size] := ((Blk.new w _ _).alloc _).alloc _
  have k2 : Blk (((w.alloc (.cells #[.int .i64 size] 3)).alloc (.cells #[.slice va vn vc] 25)).alloc (.cells #[.int .i64 idx] 3)) (w.heap.size + 1) 25 #[.slice va vn vc] := by
    have := (Blk.new (w.alloc (.cells #[.int .i64 size] 3)) 25 #[.slice va vn vc]).alloc (.cells #[.int .i64 idx] 3)
    simpa using this
  have k3 : Blk (((w.alloc (.cells #[.int .i64 size] 3)).alloc (.cells #[.slice va vn vc] 25)).alloc (.cells #[.int .i64 idx] 3)) (w.heap.size + 2) 3 #[.int .i64 idx] := by
    have := Blk.new ((w.alloc (.cells #[.int .i64 size] 3)).alloc (.cells #[.slice va vn vc] 25)) 3 #[.int .i64 idx]
    simpa using this
  have HS := Lib.hid hs
  have HT := Lib.hid ht
  clear hs ht
  by_cases hcb : canB size seed.length idx = true
  · have hcI : 1 ≤ size ∧ size ≤ 32 := by unfold canB at hcb; have := of_decide_eq_true hcb; omega
    rw [hcb] at HC HE HL
    rw [if_pos rfl] at HE HL
    rw [HE.out, HL.out]
    obtain ⟨n, rfl⟩ : ∃ n : Nat, size = n := ⟨size.toNat, by omega⟩
    rw [Int.toNat_natCast]
    clear hcb
    go_enter Tryd.func146, Tryd.ntmps146
    go_wp2_with fail
    generalize (((w.alloc (.cells #[.int .i64 n] 3)).alloc (.cells #[.slice va vn vc] 25)).alloc (.cells #[.int .i64 idx] 3)) = w3 at *
    refine (HC.out w3 hb3).mono ?_
    rintro e w4 ⟨rfl, rfl⟩
    have q1 := k1.cell 0
    have q2 := k2.cell 0
    have q3 := k3.cell 0
    go_wp2_with fail
    refine (endKey_any w.heap.size (w.heap.size + 1) (w.heap.size + 2) n (by omega) idx hx0 hx1 (endK n seed idx) (endK_isB _ _ _) (endK_len _ _ _) (fun wx => Below w3.heap.size w3 wx) (fun wx wy h1 h2 => below_trans2 h1 h2) ?hK w3 (Below.refl _ _) (HT.out.below hb3)).mono ?_
    case hK =>
      intro i wx hi hbx
      exact key1_any n (.slice va vn vc) seed idx i _ _ _ wx hx0 hx1 (by omega) (k1.belowS hbx) (k2.belowS hbx) (k3.belowS hbx) hB ((HS.out.below hb3 (Nat.le_refl _)).below hbx (Nat.le_refl _)) ((HT.out.below hb3).below hbx)
    rintro e w4 ⟨x, rfl, hx, hb4⟩
    have hb4 := below_trans2 hb3 hb4
    clear k1 k2 k3 q1 q2 q3
    go_wp2
    go_ret2
    exact ⟨_, rfl, hx, hb4⟩
  · rw [if_neg hcb] at HE HL
    rw [Bool.not_eq_true] at hcb
    rw [hcb] at HC
    rw [HE.out, HL.out]
    clear hcb
    go_enter Tryd.func146, Tryd.ntmps146
    go_wp2_with fail
    generalize (((w.alloc (.cells #[.int .i64 size] 3)).alloc (.cells #[.slice va vn vc] 25)).alloc (.cells #[.int .i64 idx] 3)) = w3 at *
    refine (HC.out w3 hb3).mono ?_
    rintro e w4 ⟨rfl, rfl⟩
    go_wp2
    go_ret2
    exact ⟨_, rfl, Sl.nil _, hb3⟩

end Go.Proofs.YtjhannlioddkkaaDoor

namespace Go.Proofs.YtjhannlioddkkaaDoor
open Go.RowKit
set_option linter.unusedVariables false

end Go.Proofs.YtjhannlioddkkaaDoor
