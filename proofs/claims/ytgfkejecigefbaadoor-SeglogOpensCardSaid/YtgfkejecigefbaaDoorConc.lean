
/- slices.Concat of byte slices. -/
import Derived.Test.YtgfkejecigefbaaDoorApp
import Derived.Test.YtgfkejecigefbaaDoorClone
import Derived.Lib.AppendZeros
namespace Go.Proofs.YtgfkejecigefbaaDoor
open Go.RowKit
set_option linter.unusedVariables false

theorem cell1_u8 : Tryd.prog.cellsOf 5 = 1 := by kernel_rfl

set_option maxHeartbeats 1000000 in
theorem grow0_any (n : Nat) (w : World) (hn : n ≤ 140737488355328) :
    Calls Tryd.prog 83 #[.slice none 0 0, .int .i64 n] w fun e w' => ∃ x, e = .returned x ∧ w'.ownsRow w.heap.size 5 1 x 0 [] ∧ Below w.heap.size w w' := by
  by_cases h0 : n = 0
  · subst h0
    go_enter Tryd.func83, Tryd.ntmps83
    go_wp2
    go_ret
    exact ⟨_, rfl, World.ownsRow_nil _ _ _ _, Below.refl _ _⟩
  · obtain ⟨i0, hi, hz0, hz1, hz2⟩ := info_parts info8c
    have hpos : 0 < (n : Int) := by omega
    have hposN : 0 < n := by omega
    have hrun := fun ty => Lib.run_append_nil_zeros (P := Tryd.prog) w 26 3 ty 5 i0 (.int .u8 0) .i64 .i64 Tryd.underlying26 Tryd.underlying3 hi hz0 n hposN (by omega) (by omega) (by rw [hz2]; omega)
    have hG := grownCap_ge w n 0 5
    have hGm : grownCap w n 0 5 ≤ maxLen := grownCap_le_maxLen w n 0 5 (by unfold maxLen; omega)
    generalize hGG : grownCap w n 0 5 = G at *
    have HROW := Lib.hid (show (w.drew.alloc (.cells (Builtin.zeroCells (Value.int .u8 0).cells n ++ Builtin.zeroCells (Value.int .u8 0).cells (G - n)) 5)).ownsRow w.heap.size 5 1 (.slice (some ⟨w.heap.size, 0, none⟩) 0 G) 0 [] from
      ⟨rfl, .inr ⟨w.heap.size, G, _, rfl, Nat.le_refl _, heap_alloc_new w.drew _, Nat.zero_le _, hGm, by simp [size_zeroCells, Value.cells]; omega, by simp⟩⟩)
    have HBL := Lib.hid (show Below w.heap.size w (w.drew.alloc (.cells (Builtin.zeroCells (Value.int .u8 0).cells n ++ Builtin.zeroCells (Value.int .u8 0).cells (G - n)) 5)) from (Below.refl w.heap.size w).drew.alloc (by simp) _)
    generalize hW : (w.drew.alloc (.cells (Builtin.zeroCells (Value.int .u8 0).cells n ++ Builtin.zeroCells (Value.int .u8 0).cells (G - n)) 5)) = W at *
    have hGI : G ≤ 9223372036854775807 := by unfold maxLen at hGm; omega
    clear hz0 hz1 hz2 hi hGm hGG hW
    go_enter Tryd.func83, Tryd.ntmps83
    go_wp2_with (at_builtin; refine Lib.wpList_append_run _ rfl _ _ _ _ rfl _ _ rfl rfl _ _ (hrun _) ?_)
    go_ret
    exact ⟨_, rfl, HROW.out, HBL.out⟩

theorem flat_le (pss : List (List Int)) (k : Nat) : (pss.take k).flatten.length ≤ pss.flatten.length := by
  have h := congrArg List.length (congrArg List.flatten (List.take_append_drop k pss))
  rw [List.flatten_append, List.length_append] at h
  omega
theorem flat_succ (pss : List (List Int)) (k : Nat) (hk : k < pss.length) : (pss.take (k + 1)).flatten = (pss.take k).flatten ++ pss.getD k [] := by
  rw [List.take_succ_eq_append_getElem hk, List.flatten_append, List.getD_eq_getElem?_getD, List.getElem?_eq_getElem hk]
  simp

set_option maxHeartbeats 2000000 in
theorem concat_any (v : Value) (pss : List (List Int)) (w : World) (hT : pss.flatten.length ≤ 100000000000000) (h : Sls w v pss) :
    Calls Tryd.prog 58 #[v] w fun e w' => ∃ x, e = .returned x ∧ w'.ownsRow w.heap.size 5 1 x pss.flatten.length (pss.flatten.map (Value.int .u8)) ∧ Below w.heap.size w w' := by
  obtain ⟨a, cap, rfl, hc, hm⟩ := h.shape
  have HH := Lib.hid h
  have HT := Lib.hid hT
  clear h hT
  go_enter Tryd.func58, Tryd.ntmps58
  go_wp2
  go_loopw [3, 11] (fun s i wr => ∃ (k F : Nat), k ≤ pss.length ∧ Hid (F = (pss.take k).flatten.length) ∧ s = .int .i64 F ∧ i = .int .i64 k ∧ w = wr) (fun _ i _ => pss.length - (intOf i).toNat)
  case atStart => exact ⟨0, 0, by omega, rfl, rfl, rfl, rfl⟩
  case round =>
    obtain ⟨k, F, hk, hF, rfl, rfl, rfl⟩ := hrel
    have hFle := flat_le pss k
    rw [← hF.out] at hFle
    have hFT : F ≤ 100000000000000 := Nat.le_trans hFle HT.out
    clear hFle
    by_cases hlt : k < pss.length
    · obtain ⟨b, off, rfl, hb, u, hu, hs⟩ := HH.out.at hlt
      have hkI : (k : Int) < (pss.length : Int) := by omega
      have HS := Lib.hid (flat_succ pss k hlt)
      have hN := flat_le pss (k + 1)
      rw [flat_succ pss k hlt, List.length_append, ← hF.out] at hN
      have hN := Nat.le_trans hN HT.out
      generalize pss.getD k [] = P at *
      obtain ⟨ua, uc, rfl, _, _⟩ := hs.shape
      simp only [List.length_map] at *
      have HPE := Lib.hid (show F + P.length = ((pss.take k).flatten ++ P).length by rw [List.length_append, ← hF.out])
      generalize P.length = p at *
      have hneg : ¬ ((F : Int) + (p : Int) < 0) := by omega
      have hw : IntKind.i64.wrap ((F : Int) + (p : Int)) = (F : Int) + (p : Int) := by rw [IntKind.wrap_i64]; omega
      clear hs hN hFT
      go_wp2
      exact ⟨⟨k + 1, F + p, by omega, (HPE.out.trans (by rw [HS.out])), by go_num, by go_num, trivial⟩, by simp [intOf]; omega⟩
    · obtain rfl : k = pss.length := by omega
      have hkI : ¬ (pss.length : Int) < (pss.length : Int) := by omega
      have hF2 := hF.out
      rw [List.take_length] at hF2
      have HG := Lib.hid (grow0_any F w (by omega))
      clear hF2
      go_wp2_with fail
      refine HG.out.mono ?_
      rintro e w2 ⟨x, rfl, hown, hb2⟩
      clear hF HG hFT
      obtain ⟨i0, hi, hz0, hz1, hz2⟩ := info_parts info8c
      go_wp2
      go_loopw [6, 27] (fun s i wr => ∃ (k : Nat) (sv : Value), sv = s ∧ k ≤ pss.length ∧ i = .int .i64 k ∧ wr.ownsRow w.heap.size 5 1 sv (pss.take k).flatten.length ((pss.take k).flatten.map (Value.int .u8)) ∧ Below w.heap.size w wr) (fun _ i _ => pss.length - (intOf i).toNat)
      case atStart => exact ⟨0, _, rfl, by omega, rfl, hown, hb2⟩
      case round =>
        obtain ⟨k, sv, rfl, hk2, rfl, hO, hbr⟩ := hrel
        clear hown hb2
        by_cases hlt2 : k < pss.length
        · obtain ⟨b, off, rfl, hb, u, hu, hs⟩ := (HH.out.below hbr (Nat.le_refl _)).at hlt2
          have hkI2 : (k : Int) < (pss.length : Int) := by omega
          have HS := Lib.hid (flat_succ pss k hlt2)
          have hN := flat_le pss (k + 1)
          rw [flat_succ pss k hlt2, List.length_append] at hN
          have HN := Lib.hid (Nat.le_trans hN HT.out)
          clear hN
          generalize pss.getD k [] = P at *
          generalize (pss.take k).flatten = FK at *
          obtain ⟨ua, un, uc, rfl⟩ := hs.val
          go_wp2_with (at_builtin; refine wpList_append_sl rfl _ _ 26 rfl w.heap.size 5 i0 (.int .u8 0) 1 Tryd.underlying26 hi hz0 hz1 hz2 rfl _ FK.length (FK.map (Value.int .u8)) rfl hO (.slice ua un uc) (P.map (Value.int .u8)) rfl hs (one8 _) (by have := HN.out; rw [List.length_map]; unfold maxLen; omega) (by have := HN.out; rw [List.length_map]; omega) hbr.size ?_)
          intro xv w3 hown3 hg3
          have hb3 := below_grown hbr hO (Nat.le_refl _) hbr.size hg3
          rw [← List.length_append, ← List.map_append, ← HS.out] at hown3
          clear hO hs hbr
          go_wp2
          exact ⟨⟨k + 1, xv, rfl, by omega, by go_num, hown3, hb3⟩, by simp [intOf]; omega⟩
        · obtain rfl : k = pss.length := by omega
          rw [List.take_length] at hO
          go_wp2
          go_ret
          exact ⟨_, rfl, hO, hbr⟩

end Go.Proofs.YtgfkejecigefbaaDoor
