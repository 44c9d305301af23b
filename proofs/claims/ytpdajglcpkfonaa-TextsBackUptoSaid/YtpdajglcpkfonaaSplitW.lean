/- The walks of the laws TextsSplit and TextsBack. -/
import Derived.Test.YtpdajglcpkfonaaSplitR
import Derived.Test.YtpdajglcpkfonaaBClone
import Derived.Test.YtpdajglcpkfonaaTextAw
import Derived.Test.YtpdajglcpkfonaaSame
namespace Go.Proofs.Ytpdajglcpkfonaa
open Go.RowKit
set_option linter.unusedVariables false

theorem partsS_isB {bs : List Int} (h : IsB bs) : ∀ p ∈ partsS bs, IsB p := by
  intro p hp
  cases bs with
  | nil => simp [partsS] at hp
  | cons t r =>
    cases hq : spl r with
    | none => simp [partsS, hq] at hp
    | some ps =>
      simp only [partsS, hq, Option.getD_some] at hp
      exact ((flat_spl r ps (fun x hx => h x (by simp [hx])) hq).2 p hp).2

set_option maxHeartbeats 1000000 in
theorem textsSplit_walk (v : Value) (bs : List Int) (w : World) (hn : bs.length ≤ 1048576) (hB : IsB bs) (hs : Sl w v (bs.map (Value.int .u8))) :
    Calls Try.prog 4 #[v] w fun e w' => e = .returned (.bool true) ∧ Below w.heap.size w w' := by
  have HN := Lib.hid hn
  have HC := Lib.hid (bclone_any v bs w (by omega) hs)
  clear hn
  go_enter Try.func4, Try.ntmps4
  go_wp2_with fail
  refine HC.out.mono ?_
  rintro e w1 ⟨v1, rfl, hs1, hb1⟩
  have hs := hs.below hb1 (Nat.le_refl _)
  clear HC
  go_wp2_with fail
  refine (split_any v1 bs w1 HN.out hB hs1).mono ?_
  rintro e w2 ⟨l, rfl, hl, hb2⟩
  have hs := hs.below hb2 (Nat.le_refl _)
  have hs1 := hs1.below hb2 (Nat.le_refl _)
  have hb12 := below_trans2 hb1 hb2
  clear hb1 hb2
  go_wp2_with fail
  refine (refSplit_any v bs w2 HN.out hB hs).mono ?_
  rintro e w3 ⟨m, rfl, hm, hb3⟩
  have hs := hs.below hb3 (Nat.le_refl _)
  have hs1 := hs1.below hb3 (Nat.le_refl _)
  have hl := hl.below hb3 (Nat.le_refl _)
  have hb13 := below_trans2 hb12 hb3
  clear hb12 hb3
  have HS := Lib.hid (sameTexts_any l m _ _ w3 hl hm (partsS_isB hB) (partsS_isB hB))
  have HE := Lib.hid (bytesEq_same v1 v bs w3 hs1 hs hB)
  rw [decide_eq_true rfl] at HS
  generalize tagS bs = tg at *
  generalize codeS bs = cd at *
  clear hl hm hs hs1
  go_wp2_with fail
  refine HS.out.mono ?_
  rintro e w4 ⟨rfl, rfl⟩
  go_wp2_with fail
  refine HE.out.mono ?_
  rintro e w4 ⟨rfl, rfl⟩
  go_wp2_with fail
  refine (textsAwake_any _).mono ?_
  rintro e w5 ⟨rfl, hb5⟩
  have hb15 := below_trans2 hb13 hb5
  go_wp2
  go_ret
  exact ⟨rfl, hb15⟩

end Go.Proofs.Ytpdajglcpkfonaa
