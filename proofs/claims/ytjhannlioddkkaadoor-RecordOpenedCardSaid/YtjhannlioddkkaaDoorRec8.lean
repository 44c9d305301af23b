
/- Records: awake, and the law that what was written is read. -/
import Derived.Test.YtjhannlioddkkaaDoorRec7
import Derived.Test.YtjhannlioddkkaaDoorBytes
namespace Go.Proofs.YtjhannlioddkkaaDoor
open Go.RowKit
set_option linter.unusedVariables false

theorem can1 : canI 1 0 0 [1] 0 [2] [] := by decide
theorem enc1 : encI 0 0 [1] 0 [2] [] = [0, 0, 1, 1, 1, 0, 1, 1, 2] := by decide

set_option maxHeartbeats 400000 in
theorem awake13_any (w : World) (hT : TzTab w) : Calls Tryd.prog 19 #[] w fun e w' => e = .returned (.bool true) ∧ Below w.heap.size w w' := by
  have hB : IsB [0, 0, 1, 1, 1, 0, 1, 1, 2] := by intro n hn; simp at hn; omega
  have hb1 : Below w.heap.size w (w.alloc (.cells #[.int .u8 1] 5)) := (Below.refl _ _).alloc (Nat.le_refl _) _
  have hb2 : Below w.heap.size w ((w.alloc (.cells #[.int .u8 1] 5)).alloc (.cells #[.int .u8 2] 5)) := hb1.alloc hb1.size _
  have hs1 : Sl ((w.alloc (.cells #[.int .u8 1] 5)).alloc (.cells #[.int .u8 2] 5)) (.slice (some ⟨w.heap.size, 0, none⟩) 1 1) ([1].map (Value.int .u8)) := (Sl.lit w #[.int .u8 1] 5 (by simp [maxLen])).below ((Below.refl _ _).alloc (Nat.le_refl _) _) (Nat.le_refl _)
  have hs2 : Sl ((w.alloc (.cells #[.int .u8 1] 5)).alloc (.cells #[.int .u8 2] 5)) (.slice (some ⟨w.heap.size + 1, 0, none⟩) 1 1) ([2].map (Value.int .u8)) := by
    have := Sl.lit (w.alloc (.cells #[.int .u8 1] 5)) #[.int .u8 2] 5 (by simp [maxLen])
    simpa using this
  have hR : RecV ((w.alloc (.cells #[.int .u8 1] 5)).alloc (.cells #[.int .u8 2] 5)) (.agg #[.int .i64 0, .int .i64 0, .slice (some ⟨w.heap.size, 0, none⟩) 1 1, .int .i64 0, .slice (some ⟨w.heap.size + 1, 0, none⟩) 1 1, .slice none 0 0]) 0 0 [1] 0 [2] [] := ⟨_, _, _, rfl, hs1, hs2, ⟨[], Sl.nil _, rfl, fun i u bs hu _ => by simp at hu⟩⟩
  have HE := Lib.hid (enc_any 1 0 0 [1] 0 [2] [] _ _ (by decide) (by decide) hR (hT.below hb2))
  rw [show codeE 1 0 0 [1] 0 [2] [] = 0 from by unfold codeE; rw [if_pos can1], show contE 1 0 0 [1] 0 [2] [] = [0, 0, 1, 1, 1, 0, 1, 1, 2] from by unfold contE; rw [if_pos can1, enc1]] at HE
  clear hR hs1 hs2 hT hb1
  go_enter Tryd.func19, Tryd.ntmps19
  go_wp2_with fail
  generalize ((w.alloc (.cells #[.int .u8 1] 5)).alloc (.cells #[.int .u8 2] 5)) = w1 at *
  refine HE.out.mono ?_
  rintro e w2 ⟨x, rfl, hs2, hb3⟩
  have hb4 := below_trans2 hb2 hb3
  clear hb2 hb3 HE
  go_wp2_with fail
  refine (bytesEq_same _ _ [0, 0, 1, 1, 1, 0, 1, 1, 2] _ (hs2.below ((Below.refl _ _).alloc (Nat.le_refl _) _) (Nat.le_refl _)) (Sl.lit w2 #[.int .u8 0, .int .u8 0, .int .u8 1, .int .u8 1, .int .u8 1, .int .u8 0, .int .u8 1, .int .u8 1, .int .u8 2] _ (by simp [maxLen])) hB).mono ?_
  rintro e w3 ⟨rfl, rfl⟩
  go_wp2
  go_ret
  exact ⟨rfl, hb4.alloc hb4.size _⟩

end Go.Proofs.YtjhannlioddkkaaDoor
