
/- The walk of the reference's Digits. The walks of Sign, the program's and the reference's. The walks of end, Key, the program's; Key of the reference. The walks of a search for a text of another length. The walks of Recover, the program's and the reference's. The plain law of the digits, and the walk of the law WotsChecks. The walk of SameTexts: whether two lists of texts are the same. The walk of the law WotsSigns. Trees of signing keys: what their levels are, and lists of lists of texts that a call makes. Conditions: none. Trees of signing keys: what may be, the hash of two. The walks of a search for a text of another length. Trees of signing keys: Verify, the program's. Trees of signing keys: Verify, the reference's: where the answer is no at once. -/
import Derived.Test.YtjhannlioddkkaaGreatDoorDigits
import Derived.Test.YtjhannlioddkkaaGreatDoorChainR
import Derived.Test.YtjhannlioddkkaaGreatDoorRs2
import Derived.Test.YtjhannlioddkkaaGreatDoorOwnT
import Derived.Test.YtjhannlioddkkaaGreatDoorRs1
import Derived.Deep.RegionHeld3
import Derived.StillTailTactics
import Derived.Test.YtjhannlioddkkaaGreatDoorTextA
import Derived.Test.YtjhannlioddkkaaGreatDoorBlk
import Derived.Test.YtjhannlioddkkaaGreatDoorEqInts
import Derived.Test.YtjhannlioddkkaaGreatDoorReaderF
import Derived.Test.YtjhannlioddkkaaGreatDoorCodecR
import Derived.Test.YtjhannlioddkkaaGreatDoorMtsCan
import Derived.Deep.Cut
namespace Go.Proofs.YtjhannlioddkkaaGreatDoor
open Go.RowKit
set_option linter.unusedVariables false

set_option maxHeartbeats 4000000 in
theorem refDigits_short (bs : List Int) (v : Value) (hB : IsB bs) (hl : bs.length ≤ 32) (w : World) (hs : Sl w v (bs.map (Value.int .u8))) :
    Calls Tryz.prog 77 #[v] w fun e w' => ∃ v', e = .returned v' ∧ Sl w' v' ((digitsOf bs).map (Value.int .i64)) ∧ Below w.heap.size w w' := by
  obtain ⟨i0, hi, hz0, hz1, hz2⟩ := info_parts Tryz.info3'
  obtain ⟨ad, cap, rfl, hcl, hcm⟩ : ∃ ad cap, v = .slice ad bs.length cap ∧ bs.length ≤ cap ∧ cap ≤ 9223372036854775807 := by
    obtain ⟨x, y, h1, h2, h3, _⟩ := hs
    simp only [List.length_map] at *
    exact ⟨x, y, h1, h2, h3⟩
  go_enter Tryz.func77, Tryz.ntmps77
  have hown1 := World.ownsRow_nil w w.heap.size 3 1
  have hb1 := Below.refl w.heap.size w
  go_wp2
  go_loopw [3, 4, 12] (fun v c i wr => ∃ n : Nat, n ≤ bs.length ∧ i = .int .i64 n ∧ c = .int .i64 (inv3 (digs (bs.take n))) ∧ wr.ownsRow w.heap.size 3 1 v (digs (bs.take n)).length ((digs (bs.take n)).map (Value.int .i64)) ∧ Below w.heap.size w wr) (fun _ _ i _ => bs.length - (intOf i).toNat)
  case atStart => exact ⟨0, Nat.zero_le _, rfl, rfl, hown1, hb1⟩
  case round =>
    clear hown1 hb1
    obtain ⟨n, hn, rfl, rfl, hown, hbr⟩ := hrel
    have hsz := hbr.size
    by_cases hlt : n < bs.length
    · have hn32 : (n : Int) < 32 := by omega
      obtain ⟨b, off, rfl, hbb, hx⟩ := hs.ints hlt
      have hx1 : wr.cell? ⟨b, off + n, none⟩ = some (.int .u8 (bs.getD n 0)) := by rw [hbr.cell (p := ⟨b, off + n, none⟩) hbb]; exact hx n hlt
      have hxb := hB.getD n
      have HT := Lib.hid (take_snoc_getD bs n hlt)
      have hib := inv3_bd (digs (bs.take n)) (fun d hd => digs_mem hd)
      have hdl := digs_len (bs.take n)
      have htl : (bs.take n).length = n := by simp; omega
      rw [htl] at hdl
      rw [hdl] at hib hown
      generalize hX : bs.getD n 0 = X at hx1 hxb HT
      clear hX hx
      generalize hC0 : inv3 (digs (bs.take n)) = C0 at hib
      have HC0 := Lib.hid hC0
      generalize hD : digs (bs.take n) = D at hown hC0
      have HD := Lib.hid hD
      have hC1 : Hid (inv3 D = C0) := hC0
      clear hC0 hdl htl hD HC0
      go_wp2
      obtain ⟨wo, rfl⟩ : ∃ wo : World, wo = wr := ⟨_, rfl⟩
      go_loopw [3, 4, 7] (fun v c i wr => ∃ j : Nat, j ≤ 4 ∧ i = .int .i64 (6 - 2 * (j : Int)) ∧ c = .int .i64 (C0 + inv3 ((dig4 X).take j)) ∧ wr.ownsRow w.heap.size 3 1 v (4 * n + j) ((D ++ (dig4 X).take j).map (Value.int .i64)) ∧ Below w.heap.size w wr) (fun _ _ i _ => (intOf i + 2).toNat)
      case atStart => exact ⟨0, by omega, rfl, by simp [inv3], by simpa using hown, hbr⟩
      case round =>
        clear hown hbr hx1 hsz
        obtain ⟨j, hj, rfl, rfl, hown, hbr⟩ := hrel
        have hsz := hbr.size
        have HM := Lib.hid (show 4 * n + j + 1 ≤ maxLen by unfold maxLen; omega)
        obtain rfl | rfl | rfl | rfl | rfl : j = 0 ∨ j = 1 ∨ j = 2 ∨ j = 3 ∨ j = 4 := by omega
        · have ha : bits .and .i64 (X / 64) 3 = X / 64 % 4 := and3_i64 _ (by omega) (by omega)
          have hc0 : C0 + inv3 ((dig4 X).take 0) ≤ 9223372036854770000 ∧ 0 ≤ C0 + inv3 ((dig4 X).take 0) := by simp [inv3, dig4]; omega
          generalize hCC : C0 + inv3 ((dig4 X).take 0) = CC at hc0 ⊢
          have HCC := Lib.hid hCC
          clear hCC
          go_wp2_with (at_builtin; refine wpList_append_own _ rfl _ _ 70 rfl w.heap.size 3 i0 (.int .i64 0) 1 8 Tryz.underlying70 hi hz0 hz1 hz2 rfl (by decide) _ _ _ rfl (hown.alloc _) ⟨wr.heap.size, 0, none⟩ 1 1 [.int .i64 (X / 64 % 4)] rfl rfl (cell_one_new _ _ _) (by simp [Value.oneCell']) HM.out (by omega) (by simp; omega) ?_)
          intro v' w2 hown2 hg2 _
          have hb2 := below_append hbr hown (Nat.le_refl _) hsz hg2
          clear hg2
          go_wp2
          go_roundw
          case rel => exact ⟨1, by omega, by simp, by have h := HCC.out; simp [inv3, dig4] at h ⊢; omega, by simpa [dig4] using hown2, hb2⟩
          case measure => simp [intOf]
        · have ha : bits .and .i64 (X / 16) 3 = X / 16 % 4 := and3_i64 _ (by omega) (by omega)
          have hc0 : C0 + inv3 ((dig4 X).take 1) ≤ 9223372036854770000 ∧ 0 ≤ C0 + inv3 ((dig4 X).take 1) := by simp [inv3, dig4]; omega
          generalize hCC : C0 + inv3 ((dig4 X).take 1) = CC at hc0 ⊢
          have HCC := Lib.hid hCC
          clear hCC
          go_wp2_with (at_builtin; refine wpList_append_own _ rfl _ _ 70 rfl w.heap.size 3 i0 (.int .i64 0) 1 8 Tryz.underlying70 hi hz0 hz1 hz2 rfl (by decide) _ _ _ rfl (hown.alloc _) ⟨wr.heap.size, 0, none⟩ 1 1 [.int .i64 (X / 16 % 4)] rfl rfl (cell_one_new _ _ _) (by simp [Value.oneCell']) HM.out (by omega) (by simp; omega) ?_)
          intro v' w2 hown2 hg2 _
          have hb2 := below_append hbr hown (Nat.le_refl _) hsz hg2
          clear hg2
          go_wp2
          go_roundw
          case rel => exact ⟨2, by omega, by simp, by have h := HCC.out; simp [inv3, dig4] at h ⊢; omega, by simpa [dig4] using hown2, hb2⟩
          case measure => simp [intOf]
        · have ha : bits .and .i64 (X / 4) 3 = X / 4 % 4 := and3_i64 _ (by omega) (by omega)
          have hc0 : C0 + inv3 ((dig4 X).take 2) ≤ 9223372036854770000 ∧ 0 ≤ C0 + inv3 ((dig4 X).take 2) := by simp [inv3, dig4]; omega
          generalize hCC : C0 + inv3 ((dig4 X).take 2) = CC at hc0 ⊢
          have HCC := Lib.hid hCC
          clear hCC
          go_wp2_with (at_builtin; refine wpList_append_own _ rfl _ _ 70 rfl w.heap.size 3 i0 (.int .i64 0) 1 8 Tryz.underlying70 hi hz0 hz1 hz2 rfl (by decide) _ _ _ rfl (hown.alloc _) ⟨wr.heap.size, 0, none⟩ 1 1 [.int .i64 (X / 4 % 4)] rfl rfl (cell_one_new _ _ _) (by simp [Value.oneCell']) HM.out (by omega) (by simp; omega) ?_)
          intro v' w2 hown2 hg2 _
          have hb2 := below_append hbr hown (Nat.le_refl _) hsz hg2
          clear hg2
          go_wp2
          go_roundw
          case rel => exact ⟨3, by omega, by simp, by have h := HCC.out; simp [inv3, dig4] at h ⊢; omega, by simpa [dig4] using hown2, hb2⟩
          case measure => simp [intOf]
        · have ha : bits .and .i64 (X) 3 = X % 4 := and3_i64 _ (by omega) (by omega)
          have hc0 : C0 + inv3 ((dig4 X).take 3) ≤ 9223372036854770000 ∧ 0 ≤ C0 + inv3 ((dig4 X).take 3) := by simp [inv3, dig4]; omega
          generalize hCC : C0 + inv3 ((dig4 X).take 3) = CC at hc0 ⊢
          have HCC := Lib.hid hCC
          clear hCC
          go_wp2_with (at_builtin; refine wpList_append_own _ rfl _ _ 70 rfl w.heap.size 3 i0 (.int .i64 0) 1 8 Tryz.underlying70 hi hz0 hz1 hz2 rfl (by decide) _ _ _ rfl (hown.alloc _) ⟨wr.heap.size, 0, none⟩ 1 1 [.int .i64 (X % 4)] rfl rfl (cell_one_new _ _ _) (by simp [Value.oneCell']) HM.out (by omega) (by simp; omega) ?_)
          intro v' w2 hown2 hg2 _
          have hb2 := below_append hbr hown (Nat.le_refl _) hsz hg2
          clear hg2
          go_wp2
          go_roundw
          case rel => exact ⟨4, by omega, by simp, by have h := HCC.out; simp [inv3, dig4] at h ⊢; omega, by simpa [dig4] using hown2, hb2⟩
          case measure => simp [intOf]
        · go_wp2
          go_roundw
          case rel =>
            refine ⟨n + 1, by omega, by go_num, ?_, ?_, hbr⟩
            · rw [HT.out, digs_append, inv3_append, HD.out, hC1.out]
              simp [digs, dig4]
            · rw [HT.out, digs_append, HD.out]
              have e : (D ++ digs [X]).length = 4 * n + 4 := by rw [← HD.out, ← digs_append, digs_len]; simp; omega
              rw [e]
              simpa [digs, dig4] using hown
          case measure => simp [intOf]; omega
    · obtain rfl : n = bs.length := by omega
      rw [List.take_length] at hown ⊢
      have hib := inv3_bd (digs bs) (fun d hd => digs_mem hd)
      have hdl := digs_len bs
      rw [hdl] at hib hown
      generalize hC0 : inv3 (digs bs) = C at hib ⊢
      have HC := Lib.hid hC0
      generalize hD : digs bs = D at hown
      have HD := Lib.hid hD
      clear hC0 hD hdl
      go_wp2
      obtain ⟨wo, rfl⟩ : ∃ wo : World, wo = wr := ⟨_, rfl⟩
      go_loopw [3, 9] (fun v i wr => ∃ j : Nat, j ≤ 5 ∧ i = .int .i64 (8 - 2 * (j : Int)) ∧ wr.ownsRow w.heap.size 3 1 v (4 * bs.length + j) ((D ++ (checkDigs C).take j).map (Value.int .i64)) ∧ Below w.heap.size w wr) (fun _ i _ => (intOf i + 2).toNat)
      case atStart => exact ⟨0, by omega, rfl, by simpa using hown, hbr⟩
      case round =>
        clear hown hbr hsz
        obtain ⟨j, hj, rfl, hown, hbr⟩ := hrel
        have hsz := hbr.size
        have HM := Lib.hid (show 4 * bs.length + j + 1 ≤ maxLen by unfold maxLen; omega)
        obtain rfl | rfl | rfl | rfl | rfl | rfl : j = 0 ∨ j = 1 ∨ j = 2 ∨ j = 3 ∨ j = 4 ∨ j = 5 := by omega
        · have ha : bits .and .i64 (C / 256) 3 = C / 256 % 4 := and3_i64 _ (by omega) (by omega)
          go_wp2_with (at_builtin; refine wpList_append_own _ rfl _ _ 70 rfl w.heap.size 3 i0 (.int .i64 0) 1 8 Tryz.underlying70 hi hz0 hz1 hz2 rfl (by decide) _ _ _ rfl (hown.alloc _) ⟨wr.heap.size, 0, none⟩ 1 1 [.int .i64 (C / 256 % 4)] rfl rfl (cell_one_new _ _ _) (by simp [Value.oneCell']) HM.out (by omega) (by simp; omega) ?_)
          intro v' w2 hown2 hg2 _
          have hb2 := below_append hbr hown (Nat.le_refl _) hsz hg2
          clear hg2
          go_wp2
          go_roundw
          case rel => exact ⟨1, by omega, by simp, by simpa [checkDigs] using hown2, hb2⟩
          case measure => simp [intOf]
        · have ha : bits .and .i64 (C / 64) 3 = C / 64 % 4 := and3_i64 _ (by omega) (by omega)
          go_wp2_with (at_builtin; refine wpList_append_own _ rfl _ _ 70 rfl w.heap.size 3 i0 (.int .i64 0) 1 8 Tryz.underlying70 hi hz0 hz1 hz2 rfl (by decide) _ _ _ rfl (hown.alloc _) ⟨wr.heap.size, 0, none⟩ 1 1 [.int .i64 (C / 64 % 4)] rfl rfl (cell_one_new _ _ _) (by simp [Value.oneCell']) HM.out (by omega) (by simp; omega) ?_)
          intro v' w2 hown2 hg2 _
          have hb2 := below_append hbr hown (Nat.le_refl _) hsz hg2
          clear hg2
          go_wp2
          go_roundw
          case rel => exact ⟨2, by omega, by simp, by simpa [checkDigs] using hown2, hb2⟩
          case measure => simp [intOf]
        · have ha : bits .and .i64 (C / 16) 3 = C / 16 % 4 := and3_i64 _ (by omega) (by omega)
          go_wp2_with (at_builtin; refine wpList_append_own _ rfl _ _ 70 rfl w.heap.size 3 i0 (.int .i64 0) 1 8 Tryz.underlying70 hi hz0 hz1 hz2 rfl (by decide) _ _ _ rfl (hown.alloc _) ⟨wr.heap.size, 0, none⟩ 1 1 [.int .i64 (C / 16 % 4)] rfl rfl (cell_one_new _ _ _) (by simp [Value.oneCell']) HM.out (by omega) (by simp; omega) ?_)
          intro v' w2 hown2 hg2 _
          have hb2 := below_append hbr hown (Nat.le_refl _) hsz hg2
          clear hg2
          go_wp2
          go_roundw
          case rel => exact ⟨3, by omega, by simp, by simpa [checkDigs] using hown2, hb2⟩
          case measure => simp [intOf]
        · have ha : bits .and .i64 (C / 4) 3 = C / 4 % 4 := and3_i64 _ (by omega) (by omega)
          go_wp2_with (at_builtin; refine wpList_append_own _ rfl _ _ 70 rfl w.heap.size 3 i0 (.int .i64 0) 1 8 Tryz.underlying70 hi hz0 hz1 hz2 rfl (by decide) _ _ _ rfl (hown.alloc _) ⟨wr.heap.size, 0, none⟩ 1 1 [.int .i64 (C / 4 % 4)] rfl rfl (cell_one_new _ _ _) (by simp [Value.oneCell']) HM.out (by omega) (by simp; omega) ?_)
          intro v' w2 hown2 hg2 _
          have hb2 := below_append hbr hown (Nat.le_refl _) hsz hg2
          clear hg2
          go_wp2
          go_roundw
          case rel => exact ⟨4, by omega, by simp, by simpa [checkDigs] using hown2, hb2⟩
          case measure => simp [intOf]
        · have ha : bits .and .i64 (C) 3 = C % 4 := and3_i64 _ (by omega) (by omega)
          go_wp2_with (at_builtin; refine wpList_append_own _ rfl _ _ 70 rfl w.heap.size 3 i0 (.int .i64 0) 1 8 Tryz.underlying70 hi hz0 hz1 hz2 rfl (by decide) _ _ _ rfl (hown.alloc _) ⟨wr.heap.size, 0, none⟩ 1 1 [.int .i64 (C % 4)] rfl rfl (cell_one_new _ _ _) (by simp [Value.oneCell']) HM.out (by omega) (by simp; omega) ?_)
          intro v' w2 hown2 hg2 _
          have hb2 := below_append hbr hown (Nat.le_refl _) hsz hg2
          clear hg2
          go_wp2
          go_roundw
          case rel => exact ⟨5, by omega, by simp, by simpa [checkDigs] using hown2, hb2⟩
          case measure => simp [intOf]
        · go_wp2
          go_ret
          refine ⟨_, rfl, ?_, hbr⟩
          have e : digitsOf bs = D ++ (checkDigs C).take 5 := by
            unfold digitsOf
            rw [List.take_of_length_le hl, HC.out, HD.out]
            rfl
          rw [e]
          exact Sl.of_owns hown

end Go.Proofs.YtjhannlioddkkaaGreatDoor

namespace Go.Proofs.YtjhannlioddkkaaGreatDoor
open Go.RowKit
set_option linter.unusedVariables false

/-- The first k chains' values of a signature. -/
def sgU (size : Int) (seed : List Int) (idx : Int) (dd : List Int) (k : Nat) : List (List Int) := (List.range k).map fun (i : Nat) => chI size idx i 0 (secI size seed idx i) (dd.getD i 0).toNat
theorem sgU_succ (size : Int) (seed : List Int) (idx : Int) (dd : List Int) (k : Nat) : sgU size seed idx dd (k + 1) = sgU size seed idx dd k ++ [chI size idx k 0 (secI size seed idx k) (dd.getD k 0).toNat] := by
  unfold sgU; rw [List.range_succ, List.map_append]; rfl
theorem sgU_len (size : Int) (seed : List Int) (idx : Int) (dd : List Int) (k : Nat) : (sgU size seed idx dd k).length = k := by simp [sgU]
def signE (size : Int) (n : Nat) (idx : Int) (m : Nat) : Int := if canB size n idx = true ∧ (m : Int) = size then 0 else 1
def signL (size : Int) (seed : List Int) (idx : Int) (dg : List Int) : List (List Int) := if canB size seed.length idx = true ∧ (dg.length : Int) = size then sgU size seed idx (digitsOf dg) (4 * dg.length + 5) else []


theorem chain0_any (size : Int) (v : Value) (bs : List Int) (idx i : Int) (te : Nat) (w : World) (hx0 : -9223372036854775808 ≤ idx) (hx1 : idx ≤ 9223372036854775807) (hi0 : -9223372036854775808 ≤ i) (hi1 : i ≤ 9223372036854775807) (h2 : te ≤ 3) (hn : bs.length ≤ 140737488351232) (hB : IsB bs) (hs : Sl w v (bs.map (Value.int .u8))) (ht : Tabs w) :
    Calls Tryz.prog 74 #[.int .i64 size, v, .int .i64 idx, .int .i64 i, .int .i64 0, .int .i64 te] w fun e w' => ∃ x, e = .returned x ∧ Sl w' x ((chI size idx i 0 bs te).map (Value.int .u8)) ∧ Below w.heap.size w w' := by
  have h := chain_any size v bs idx i 0 te w hx0 hx1 hi0 hi1 (by omega) hn hB hs ht
  rw [show max (0 : Int) 0 = 0 by omega, show (min (te : Int) 3 - 0).toNat = te by omega] at h
  exact h

theorem chain3_any (size : Int) (v : Value) (bs : List Int) (idx i : Int) (fr : Nat) (w : World) (hx0 : -9223372036854775808 ≤ idx) (hx1 : idx ≤ 9223372036854775807) (hi0 : -9223372036854775808 ≤ i) (hi1 : i ≤ 9223372036854775807) (h2 : fr ≤ 3) (hn : bs.length ≤ 140737488351232) (hB : IsB bs) (hs : Sl w v (bs.map (Value.int .u8))) (ht : Tabs w) :
    Calls Tryz.prog 74 #[.int .i64 size, v, .int .i64 idx, .int .i64 i, .int .i64 fr, .int .i64 3] w fun e w' => ∃ x, e = .returned x ∧ Sl w' x ((chI size idx i fr bs (3 - fr)).map (Value.int .u8)) ∧ Below w.heap.size w w' := by
  have h := chain_any size v bs idx i fr 3 w hx0 hx1 hi0 hi1 (by omega) hn hB hs ht
  rw [show max (fr : Int) 0 = fr by omega, show (min (3 : Int) 3 - fr).toNat = 3 - fr by omega] at h
  exact h

theorem chain03_any (size : Int) (v : Value) (bs : List Int) (idx i : Int) (w : World) (hx0 : -9223372036854775808 ≤ idx) (hx1 : idx ≤ 9223372036854775807) (hi0 : -9223372036854775808 ≤ i) (hi1 : i ≤ 9223372036854775807) (hn : bs.length ≤ 140737488351232) (hB : IsB bs) (hs : Sl w v (bs.map (Value.int .u8))) (ht : Tabs w) :
    Calls Tryz.prog 74 #[.int .i64 size, v, .int .i64 idx, .int .i64 i, .int .i64 0, .int .i64 3] w fun e w' => ∃ x, e = .returned x ∧ Sl w' x ((chI size idx i 0 bs 3).map (Value.int .u8)) ∧ Below w.heap.size w w' := by
  have h := chain_any size v bs idx i 0 3 w hx0 hx1 hi0 hi1 (by omega) hn hB hs ht
  rw [show max (0 : Int) 0 = 0 by omega, show (min (3 : Int) 3 - 0).toNat = 3 by omega] at h
  exact h


theorem refChain0_any (size : Int) (v : Value) (bs : List Int) (idx i : Int) (te : Nat) (w : World) (hx0 : -9223372036854775808 ≤ idx) (hx1 : idx ≤ 9223372036854775807) (hi0 : -9223372036854775808 ≤ i) (hi1 : i ≤ 9223372036854775807) (h2 : te ≤ 3) (hn : bs.length ≤ 140737488351232) (hB : IsB bs) (hs : Sl w v (bs.map (Value.int .u8))) :
    Calls Tryz.prog 78 #[.int .i64 size, v, .int .i64 idx, .int .i64 i, .int .i64 0, .int .i64 te] w fun e w' => ∃ x, e = .returned x ∧ Sl w' x ((chI size idx i 0 bs te).map (Value.int .u8)) ∧ Below w.heap.size w w' := by
  have h := refChain_any size v bs idx i 0 te w hx0 hx1 hi0 hi1 (by omega) hn hB hs
  rw [show max (0 : Int) 0 = 0 by omega, show (min (te : Int) 3 - 0).toNat = te by omega] at h
  exact h

theorem refChain3_any (size : Int) (v : Value) (bs : List Int) (idx i : Int) (fr : Nat) (w : World) (hx0 : -9223372036854775808 ≤ idx) (hx1 : idx ≤ 9223372036854775807) (hi0 : -9223372036854775808 ≤ i) (hi1 : i ≤ 9223372036854775807) (h2 : fr ≤ 3) (hn : bs.length ≤ 140737488351232) (hB : IsB bs) (hs : Sl w v (bs.map (Value.int .u8))) :
    Calls Tryz.prog 78 #[.int .i64 size, v, .int .i64 idx, .int .i64 i, .int .i64 fr, .int .i64 3] w fun e w' => ∃ x, e = .returned x ∧ Sl w' x ((chI size idx i fr bs (3 - fr)).map (Value.int .u8)) ∧ Below w.heap.size w w' := by
  have h := refChain_any size v bs idx i fr 3 w hx0 hx1 hi0 hi1 (by omega) hn hB hs
  rw [show max (fr : Int) 0 = fr by omega, show (min (3 : Int) 3 - fr).toNat = 3 - fr by omega] at h
  exact h

theorem refChain03_any (size : Int) (v : Value) (bs : List Int) (idx i : Int) (w : World) (hx0 : -9223372036854775808 ≤ idx) (hx1 : idx ≤ 9223372036854775807) (hi0 : -9223372036854775808 ≤ i) (hi1 : i ≤ 9223372036854775807) (hn : bs.length ≤ 140737488351232) (hB : IsB bs) (hs : Sl w v (bs.map (Value.int .u8))) :
    Calls Tryz.prog 78 #[.int .i64 size, v, .int .i64 idx, .int .i64 i, .int .i64 0, .int .i64 3] w fun e w' => ∃ x, e = .returned x ∧ Sl w' x ((chI size idx i 0 bs 3).map (Value.int .u8)) ∧ Below w.heap.size w w' := by
  have h := refChain_any size v bs idx i 0 3 w hx0 hx1 hi0 hi1 (by omega) hn hB hs
  rw [show max (0 : Int) 0 = 0 by omega, show (min (3 : Int) 3 - 0).toNat = 3 by omega] at h
  exact h

end Go.Proofs.YtjhannlioddkkaaGreatDoor

namespace Go.Proofs.YtjhannlioddkkaaGreatDoor
open Go.RowKit
set_option linter.unusedVariables false

def catI (f : Nat → List Int) : Nat → List Int
  | 0 => []
  | n + 1 => catI f n ++ f n
theorem catI_isB {f : Nat → List Int} (h : ∀ i, IsB (f i)) : ∀ n, IsB (catI f n)
  | 0 => fun x hx => by cases hx
  | n + 1 => (catI_isB h n).append (h n)
theorem catI_len {f : Nat → List Int} (h : ∀ i, (f i).length ≤ 32) : ∀ n, (catI f n).length ≤ 32 * n
  | 0 => by simp [catI]
  | n + 1 => by have := catI_len h n; have := h n; simp only [catI, List.length_append]; omega
theorem catI_congr {f g : Nat → List Int} : ∀ n, (∀ i, i < n → f i = g i) → catI f n = catI g n
  | 0, _ => rfl
  | n + 1, h => by simp only [catI]; rw [catI_congr n (fun i hi => h i (by omega)), h n (by omega)]


/-- A chain's end, from its beginning on. -/
def endK (size : Int) (seed : List Int) (idx : Int) (i : Nat) : List Int := chI size idx i 0 (secI size seed idx i) 3
theorem endK_isB (size : Int) (seed : List Int) (idx : Int) (i : Nat) : IsB (endK size seed idx i) := chI_isB _ _ _ _ _ (secI_isB _ _ _ _) _
theorem endK_len (size : Int) (seed : List Int) (idx : Int) (i : Nat) : (endK size seed idx i).length ≤ 32 := by
  have := chI_len size idx i 0 (secI size seed idx i) 3; have := secI_len size seed idx i; unfold endK; omega

/-- What Key returns. -/
def keyE (size : Int) (n : Nat) (idx : Int) : Int := if canB size n idx = true then 0 else 1
def keyL (size : Int) (seed : List Int) (idx : Int) : List Int := if canB size seed.length idx = true then hashT size 8 [numI idx, catI (endK size seed idx) (4 * size.toNat + 5)] else []
theorem keyL_isB (size : Int) (seed : List Int) (idx : Int) : IsB (keyL size seed idx) := by
  unfold keyL; split
  · exact hashT_isB' _ _ _
  · intro x hx; cases hx

end Go.Proofs.YtjhannlioddkkaaGreatDoor

namespace Go.Proofs.YtjhannlioddkkaaGreatDoor
open Go.RowKit
set_option linter.unusedVariables false

theorem wrOdd_any (v : Value) (bs : List Int) (cs : Nat) (size : Int) (w : World) (hz : Blk w cs 3 #[.int .i64 size]) (hs : Sl w v (bs.map (Value.int .u8))) :
    Calls Tryz.prog 69 #[v, .pointer (some ⟨cs, 0, none⟩)] w fun e w' => e = .returned (.bool (decide (¬ (bs.length : Int) = size))) ∧ w = w' := by
  obtain ⟨a, cap, rfl, hc, hm⟩ := hs.shape
  rw [List.length_map] at *
  have hz0 := hz.cell 0
  obtain ⟨bb, hbb⟩ : ∃ bb, bb = decide (¬ (bs.length : Int) = size) := ⟨_, rfl⟩
  rw [← hbb]
  have HB := Lib.hid hbb
  clear hbb
  go_enter Tryz.func69, Tryz.ntmps69
  go_wp2
  go_ret
  exact ⟨ret_bool (by rw [HB.out]; by_cases h : (bs.length : Int) = size <;> simp [h]), rfl⟩

set_option maxHeartbeats 1000000 in
theorem wrIndex_any (v : Value) (pss : List (List Int)) (cs : Nat) (size : Int) (w : World) (hz : Blk w cs 3 #[.int .i64 size]) (h : Sls w v pss) :
    Calls Tryz.prog 68 #[v, .func (.func 69) #[] #[.pointer (some ⟨cs, 0, none⟩)]] w fun e w' => ∃ r : Int, e = .returned (.int .i64 r) ∧ (0 ≤ r ↔ ∃ p ∈ pss, ¬ (p.length : Int) = size) ∧ w = w' := by
  obtain ⟨a, cap, rfl, hc, hm⟩ := h.shape
  go_enter Tryz.func68, Tryz.ntmps68
  go_wp2
  go_loopw [8] (fun i wr => ∃ k : Nat, k ≤ pss.length ∧ i = .int .i64 k ∧ Hid (∀ j, j < k → ¬ ¬ ((pss.getD j []).length : Int) = size) ∧ w = wr) (fun i _ => pss.length - (intOf i).toNat)
  case atStart => exact ⟨0, by omega, rfl, fun j hj => absurd hj (by omega), rfl⟩
  case round =>
    obtain ⟨k, hk, rfl, hall, rfl⟩ := hrel
    by_cases hlt : k < pss.length
    · obtain ⟨b, off, rfl, hb, u, hu, hs⟩ := h.at hlt
      have hkI : (k : Int) < (pss.length : Int) := by omega
      go_wp2_with fail
      refine (wrOdd_any u _ cs size w hz hs).mono ?_
      by_cases hl : ¬ ((pss.getD k []).length : Int) = size
      · rw [show decide (¬ ((pss.getD k []).length : Int) = size) = true by simpa using hl]
        rintro e w1 ⟨rfl, rfl⟩
        have HL := Lib.hid hl
        clear hl hs hu
        go_wp2
        go_ret
        refine ⟨_, rfl, ⟨fun _ => ⟨pss[k], List.getElem_mem hlt, ?_⟩, fun _ => by omega⟩, rfl⟩
        have := HL.out
        rwa [List.getD_eq_getElem?_getD, List.getElem?_eq_getElem hlt] at this
      · rw [show decide (¬ ((pss.getD k []).length : Int) = size) = false by simpa using hl]
        rintro e w1 ⟨rfl, rfl⟩
        have HL := Lib.hid hl
        clear hl hs hu
        go_wp2
        go_roundw
        case rel =>
          refine ⟨k + 1, by omega, by go_num, fun j hj => ?_, by first | rfl | trivial⟩
          rcases Nat.lt_or_ge j k with h | h
          · exact hall.out j h
          · obtain rfl : j = k := by omega
            exact HL.out
        case measure => simp [intOf]; omega
    · have hkI : ¬ (k : Int) < (pss.length : Int) := by omega
      go_wp2
      go_ret
      refine ⟨_, rfl, ⟨fun h0 => absurd h0 (by decide), fun ⟨p, hp, hl⟩ => ?_⟩, rfl⟩
      obtain ⟨j, hj, rfl⟩ := List.mem_iff_getElem.1 hp
      have := hall.out j (by omega)
      rw [List.getD_eq_getElem?_getD, List.getElem?_eq_getElem hj] at this
      exact absurd hl this

theorem wrContains_any (v : Value) (pss : List (List Int)) (cs : Nat) (size : Int) (w : World) (hz : Blk w cs 3 #[.int .i64 size]) (h : Sls w v pss) :
    Calls Tryz.prog 55 #[v, .func (.func 69) #[] #[.pointer (some ⟨cs, 0, none⟩)]] w fun e w' => e = .returned (.bool (decide (∃ p ∈ pss, ¬ (p.length : Int) = size))) ∧ w = w' := by
  have hi := Lib.hid (wrIndex_any v pss cs size w hz h)
  go_enter Tryz.func55, Tryz.ntmps55
  go_wp2_with fail
  refine hi.out.mono ?_
  rintro e w1 ⟨r, rfl, hr, rfl⟩
  have HR := Lib.hid hr
  clear hr
  go_wp2
  go_ret
  exact ⟨ret_bool (by rw [decide_eq_decide]; exact HR.out), rfl⟩


end Go.Proofs.YtjhannlioddkkaaGreatDoor

namespace Go.Proofs.YtjhannlioddkkaaGreatDoor
open Go.RowKit
set_option linter.unusedVariables false

/-- Whether Recover takes what it is given. -/
def recB (size : Int) (l : List (List Int)) (idx : Int) (m : Nat) : Bool := canB size 0 idx && (decide ((m : Int) = size) && (decide ((l.length : Int) = 4 * size + 5) && !decide (∃ p ∈ l, ¬ (p.length : Int) = size)))
def recK (size : Int) (l : List (List Int)) (idx : Int) (dd : List Int) (i : Nat) : List Int := chI size idx i (dd.getD i 0) ((l.getD i []).take 32) (3 - (dd.getD i 0).toNat)
def recE (size : Int) (l : List (List Int)) (idx : Int) (m : Nat) : Int := if recB size l idx m = true then 0 else 1
def recL (size : Int) (l : List (List Int)) (idx : Int) (dg : List Int) : List Int := if recB size l idx dg.length = true then hashT size 8 [numI idx, catI (recK size l idx (digitsOf dg)) (4 * size.toNat + 5)] else []
theorem recL_isB (size : Int) (l : List (List Int)) (idx : Int) (dg : List Int) : IsB (recL size l idx dg) := by
  unfold recL; split
  · exact hashT_isB' _ _ _
  · intro x hx; cases hx
theorem getD_isB {l : List (List Int)} (h : ∀ p ∈ l, IsB p) (i : Nat) : IsB (l.getD i []) := by
  rw [List.getD_eq_getElem?_getD]
  rcases Nat.lt_or_ge i l.length with hi | hi
  · rw [List.getElem?_eq_getElem hi]; exact h _ (List.getElem_mem hi)
  · rw [List.getElem?_eq_none hi]; intro x hx; cases hx
theorem recK_isB (size : Int) (l : List (List Int)) (idx : Int) (dd : List Int) (h : ∀ p ∈ l, IsB p) (i : Nat) : IsB (recK size l idx dd i) := chI_isB _ _ _ _ _ ((getD_isB h i).take 32) _
theorem recK_len (size : Int) (l : List (List Int)) (idx : Int) (dd : List Int) (i : Nat) : (recK size l idx dd i).length ≤ 32 := by
  have := chI_len size idx i (dd.getD i 0) ((l.getD i []).take 32) (3 - (dd.getD i 0).toNat)
  rw [List.length_take] at this
  unfold recK; omega
theorem getD_take {l : List (List Int)} {size : Int} (h1 : size ≤ 32) (h : ¬ ∃ p ∈ l, ¬ (p.length : Int) = size) (i : Nat) : (l.getD i []).take 32 = l.getD i [] := by
  rw [List.getD_eq_getElem?_getD]
  rcases Nat.lt_or_ge i l.length with hi | hi
  · rw [List.getElem?_eq_getElem hi]
    refine List.take_of_length_le ?_
    have : (l[i].length : Int) = size := by
      rcases Decidable.em ((l[i].length : Int) = size) with h0 | h0
      · exact h0
      · exact absurd ⟨_, List.getElem_mem hi, h0⟩ h
    simp only [Option.getD_some]; omega
  · rw [List.getElem?_eq_none hi]; rfl

set_option maxRecDepth 100000 in
set_option maxHeartbeats 1000000 in
theorem endRec_any (c1 c2 c3 c4 : Nat) (n : Nat) (hn : n ≤ 100) (idx : Int) (hx0 : -9223372036854775808 ≤ idx) (hx1 : idx ≤ 9223372036854775807) (f : Nat → List Int) (hf : ∀ i, IsB (f i)) (hfl : ∀ i, (f i).length ≤ 32) (I : World → Prop) (hI : ∀ w w', I w → Below w.heap.size w w' → I w')
    (hK : ∀ (i : Nat) (w : World), i < 4 * n + 5 → I w → Calls Tryz.prog 73 #[.int .i64 i, .pointer (some ⟨c1, 0, none⟩), .pointer (some ⟨c2, 0, none⟩), .pointer (some ⟨c3, 0, none⟩), .pointer (some ⟨c4, 0, none⟩)] w fun e w' => ∃ x, e = .returned x ∧ Sl w' x ((f i).map (Value.int .u8)) ∧ Below w.heap.size w w') (w : World) (hIw : I w) (ht : Tabs w) :
    Calls Tryz.prog 72 #[.int .i64 n, .int .i64 idx, .func (.func 73) #[] #[.pointer (some ⟨c1, 0, none⟩), .pointer (some ⟨c2, 0, none⟩), .pointer (some ⟨c3, 0, none⟩), .pointer (some ⟨c4, 0, none⟩)]] w fun e w' => ∃ x, e = .returned x ∧ Sl w' x ((hashT n 8 [numI idx, catI f (4 * n + 5)]).map (Value.int .u8)) ∧ Below w.heap.size w w' := by
  obtain ⟨i0, hi, hz0, hz1, hz2⟩ := info_parts info8c
  have HFL := Lib.hid (catI_len hfl)
  have HF1 := Lib.hid hfl
  clear hfl
  go_enter Tryz.func72, Tryz.ntmps72
  go_wp2_with fail
  refine (chains_any n w (by omega)).mono ?_
  rintro e w1 ⟨rfl, rfl⟩
  go_wp2
  go_loopw [7, 11] (fun l i wr => ∃ (k : Nat) (lv : Value), lv = l ∧ k ≤ 4 * n + 5 ∧ i = .int .i64 k ∧ wr.ownsRow w.heap.size 5 1 lv (catI f k).length ((catI f k).map (Value.int .u8)) ∧ Below w.heap.size w wr) (fun _ i _ => 4 * n + 5 - (intOf i).toNat)
  case atStart => exact ⟨0, _, rfl, by omega, rfl, World.ownsRow_nil _ _ _ _, Below.refl _ _⟩
  case round =>
    obtain ⟨k, l, rfl, hk, rfl, hown, hbr⟩ := hrel
    by_cases hlt : k < 4 * n + 5
    · have hkI : (k : Int) < ((4 * n + 5 : Nat) : Int) := by omega
      have HLN := Lib.hid (show (catI f k).length + (f k).length ≤ 100000 by have := HFL.out k; have := HF1.out k; omega)
      go_wp2_with fail
      refine (hK k wr hlt (hI _ _ hIw hbr)).mono ?_
      rintro e w2 ⟨x, rfl, hx, hb2⟩
      have hown := ownsRow_below hown hb2 (Nat.le_refl _)
      have hbr := hbr.trans (hb2.mono hbr.size)
      clear hb2
      obtain ⟨xa, xn, xc, rfl⟩ := hx.val
      go_wp2_with (at_builtin; refine wpList_append_sl rfl _ _ 22 rfl w.heap.size 5 i0 (.int .u8 0) 1 Tryz.underlying22 hi hz0 hz1 hz2 rfl _ _ _ rfl hown (.slice xa xn xc) ((f k).map (Value.int .u8)) rfl hx (one8 _) (by have := HLN.out; rw [List.length_map]; unfold maxLen; omega) (by have := HLN.out; rw [List.length_map]; omega) hbr.size ?_)
      intro v3 w3 hown3 hg3
      have hb3 := below_grown hbr hown (Nat.le_refl _) hbr.size hg3
      clear hg3 hown hx hbr
      go_wp2
      go_roundw
      case rel => exact ⟨k + 1, v3, rfl, by omega, by go_num, by simpa [catI] using hown3, hb3⟩
      case measure => simp [intOf]; omega
    · obtain rfl : k = 4 * n + 5 := by omega
      have hkI : ¬ ((4 * n + 5 : Nat) : Int) < ((4 * n + 5 : Nat) : Int) := by omega
      have hs := Sl.of_owns hown
      have hCB := catI_isB hf (4 * n + 5)
      have htr := ht.below hbr
      obtain ⟨C, hC⟩ : ∃ C, C = catI f (4 * n + 5) := ⟨_, rfl⟩
      rw [← hC] at hs hCB
      have HCe := Lib.hid hC
      clear hC
      obtain ⟨va, vn, vc, rfl⟩ := hs.val
      clear hown hIw hK hI hf
      go_wp2_with fail
      refine (number_any idx wr hx0 hx1).mono ?_
      rintro e w2 ⟨n1, rfl, hn1, hb2⟩
      have hs := hs.below hb2 (Nat.le_refl _)
      have htr := htr.below hb2
      have hbr := hbr.trans (hb2.mono hbr.size)
      obtain ⟨a1, m1, d1, rfl⟩ := hn1.val
      have hL := Sls.litA _ 22 (show SlAll w2 [.slice a1 m1 d1, .slice va vn vc] [numI idx, C] from ⟨hn1, hs, trivial⟩) (by simp [maxLen])
      have hb0 : Below w2.heap.size w2 (w2.alloc (.cells #[.slice a1 m1 d1, .slice va vn vc] 22)) := (Below.refl _ _).alloc (Nat.le_refl _) _
      have hbA := hbr.trans (hb0.mono hbr.size)
      have htA := htr.below hb0
      have HH := Lib.hid (hash_any n 8 _ _ _ (by simp) (by decide) (by decide) hL (fun p hp => by
        simp only [List.mem_cons, List.not_mem_nil, or_false] at hp
        rcases hp with rfl | rfl
        · exact numI_isB _
        · exact hCB) htA)
      clear hL hs hn1 hb2 hb0 htA htr hCB hbr
      go_wp2_with fail
      refine HH.out.mono ?_
      rintro e w5 ⟨y, rfl, hy, hb5⟩
      have hbr := hbA.trans (hb5.mono hbA.size)
      go_wp2
      go_ret
      exact ⟨_, rfl, by rw [← HCe.out]; exact hy, hbr⟩


set_option maxRecDepth 100000 in
set_option maxHeartbeats 1000000 in
theorem rec2_any (size : Int) (lv : Value) (l : List (List Int)) (idx : Int) (dv : Value) (dd : List Int) (i : Nat) (c1 c2 c3 c4 : Nat) (w : World) (hx0 : -9223372036854775808 ≤ idx) (hx1 : idx ≤ 9223372036854775807) (hi : i < l.length) (hi2 : i ≤ 1000) (hd : i < dd.length) (hdm : 0 ≤ dd.getD i 0 ∧ dd.getD i 0 ≤ 3)
    (k1 : Blk w c1 3 #[.int .i64 size]) (k2 : Blk w c2 23 #[lv]) (k3 : Blk w c3 3 #[.int .i64 idx]) (k4 : Blk w c4 70 #[dv]) (hB : ∀ p ∈ l, IsB p) (hs : Sls w lv l) (hds : Sl w dv (dd.map (Value.int .i64))) (hsz : size ≤ 32) (hno : ¬ ∃ p ∈ l, ¬ (p.length : Int) = size) (ht : Tabs w) :
    Calls Tryz.prog 73 #[.int .i64 i, .pointer (some ⟨c1, 0, none⟩), .pointer (some ⟨c2, 0, none⟩), .pointer (some ⟨c3, 0, none⟩), .pointer (some ⟨c4, 0, none⟩)] w fun e w' => ∃ x, e = .returned x ∧ Sl w' x ((recK size l idx dd i).map (Value.int .u8)) ∧ Below w.heap.size w w' := by
  obtain ⟨la, lc, rfl, hlc, hlm⟩ := hs.shape
  obtain ⟨xa, xc, rfl, hxc, hxm⟩ := hds.shape
  obtain ⟨b, off, rfl, hb, u, hu, hsu⟩ := hs.at hi
  obtain ⟨bd, offd, rfl, hbd, hdc⟩ := hds.ints hd
  have hdi := hdc i hd
  have HD := Lib.hid (show recK size l idx dd i = chI size idx i (dd.getD i 0) (l.getD i []) (3 - (dd.getD i 0).toNat) by unfold recK; rw [getD_take hsz hno])
  have hlen : (l.getD i []).length ≤ 32 := by
    have := getD_take hsz hno i
    rw [← this, List.length_take]; omega
  have hPB := getD_isB hB i
  generalize l.getD i [] = P at *
  generalize dd.getD i 0 = D at *
  obtain ⟨d, rfl⟩ : ∃ d : Nat, D = d := ⟨D.toNat, by omega⟩
  rw [Int.toNat_natCast] at HD
  rw [List.length_map] at *
  have hiI : (i : Int) < (l.length : Int) := by omega
  have hdI : (i : Int) < (dd.length : Int) := by omega
  have q1 : w.cell? ⟨c1, 0, none⟩ = some (.int .i64 size) := k1.cell 0
  have q2 : w.cell? ⟨c2, 0, none⟩ = some (.slice (some ⟨b, off, none⟩) l.length lc) := k2.cell 0
  have q3 : w.cell? ⟨c3, 0, none⟩ = some (.int .i64 idx) := k3.cell 0
  have q4 : w.cell? ⟨c4, 0, none⟩ = some (.slice (some ⟨bd, offd, none⟩) dd.length xc) := k4.cell 0
  have HC := Lib.hid (chain3_any size u P idx i d w.drew hx0 hx1 (by omega) (by omega) (by omega) (by omega) hPB hsu (ht.below (Below.refl _ _).drew))
  rw [← HD.out] at HC
  clear k1 k2 k3 k4 hs hds hdc hsu ht hno hPB
  go_enter Tryz.func73, Tryz.ntmps73
  go_wp2
  go_still_tail 11, (by kernel_rfl)
  change wpList _ _ _ _ _ w.drew
  go_wp2_with fail
  refine HC.out.mono ?_
  rintro e w2 ⟨x, rfl, hx, hb2⟩
  have hb2 : Below w.heap.size w w2 := ⟨hb2.os, hb2.tape, hb2.output, hb2.size, hb2.block⟩
  go_wp2
  go_ret
  exact ⟨_, rfl, hx, hb2⟩


set_option maxRecDepth 100000 in
set_option maxHeartbeats 2000000 in
theorem recover_any (size : Int) (lv : Value) (l : List (List Int)) (idx : Int) (vd : Value) (dg : List Int) (w : World) (hz0 : -9223372036854775808 ≤ size) (hz1 : size ≤ 9223372036854775807) (hx0 : -9223372036854775808 ≤ idx) (hx1 : idx ≤ 9223372036854775807)
    (hB : ∀ p ∈ l, IsB p) (hs : Sls w lv l) (hBd : IsB dg) (hsd : Sl w vd (dg.map (Value.int .u8))) (ht : Tabs w) :
    Calls Tryz.prog 56 #[.int .i64 size, lv, .int .i64 idx, vd] w fun e w' => ∃ x, e = .returned (.tuple #[x, .int .i64 (recE size l idx dg.length)]) ∧ Sl w' x ((recL size l idx dg).map (Value.int .u8)) ∧ Below w.heap.size w w' := by
  obtain ⟨la, lc, rfl, hlc, hlm⟩ := hs.shape
  obtain ⟨da, dc, rfl, hdc, hdm⟩ := hsd.shape
  rw [List.length_map] at *
  have hb3 : Below w.heap.size w (((w.alloc (.cells #[.int .i64 size] 3)).alloc (.cells #[.slice la l.length lc] 23)).alloc (.cells #[.int .i64 idx] 3)) := (((Below.refl _ _).alloc (Nat.le_refl _) _).alloc (by simp) _).alloc (by simp; omega) _
  have k1 : Blk (((w.alloc (.cells #[.int .i64 size] 3)).alloc (.cells #[.slice la l.length lc] 23)).alloc (.cells #[.int .i64 idx] 3)) w.heap.size 3 #[.int .i64 size] := ((Blk.new w _ _).alloc _).alloc _
  have k2 : Blk (((w.alloc (.cells #[.int .i64 size] 3)).alloc (.cells #[.slice la l.length lc] 23)).alloc (.cells #[.int .i64 idx] 3)) (w.heap.size + 1) 23 #[.slice la l.length lc] := by
    have := (Blk.new (w.alloc (.cells #[.int .i64 size] 3)) 23 #[.slice la l.length lc]).alloc (.cells #[.int .i64 idx] 3)
    simpa using this
  have k3 : Blk (((w.alloc (.cells #[.int .i64 size] 3)).alloc (.cells #[.slice la l.length lc] 23)).alloc (.cells #[.int .i64 idx] 3)) (w.heap.size + 1 + 1) 3 #[.int .i64 idx] := by
    have := Blk.new ((w.alloc (.cells #[.int .i64 size] 3)).alloc (.cells #[.slice la l.length lc] 23)) 3 #[.int .i64 idx]
    simpa using this
  have hs3 := hs.below hb3 (Nat.le_refl _)
  have hsd3 := hsd.below hb3 (Nat.le_refl _)
  have ht3 := ht.below hb3
  have hsz3 : w.heap.size + 1 + 1 < (((w.alloc (.cells #[.int .i64 size] 3)).alloc (.cells #[.slice la l.length lc] 23)).alloc (.cells #[.int .i64 idx] 3)).heap.size := k3.lt
  have HE := Lib.hid (show recE size l idx dg.length = if recB size l idx dg.length = true then 0 else 1 from rfl)
  have HL := Lib.hid (show recL size l idx dg = if recB size l idx dg.length = true then hashT size 8 [numI idx, catI (recK size l idx (digitsOf dg)) (4 * size.toNat + 5)] else [] from rfl)
  have HRB := Lib.hid (show recB size l idx dg.length = (canB size 0 idx && (decide ((dg.length : Int) = size) && (decide ((l.length : Int) = 4 * size + 5) && !decide (∃ p ∈ l, ¬ (p.length : Int) = size)))) from rfl)
  generalize hw3 : (((w.alloc (.cells #[.int .i64 size] 3)).alloc (.cells #[.slice la l.length lc] 23)).alloc (.cells #[.int .i64 idx] 3)) = w3 at *
  have HW3 := Lib.hid hw3
  have q1 : w3.cell? ⟨w.heap.size, 0, none⟩ = some (.int .i64 size) := k1.cell 0
  have q2 : w3.cell? ⟨w.heap.size + 1, 0, none⟩ = some (.slice la l.length lc) := k2.cell 0
  have q3 : w3.cell? ⟨w.heap.size + 1 + 1, 0, none⟩ = some (.int .i64 idx) := k3.cell 0
  have HQ1 := Lib.hid (fun n => can_any size (.slice none 0 0) [] idx (w3.drewN n) (Sl.nil _))
  rw [show ([] : List Int).length = 0 from rfl] at HQ1
  have HQ3 := Lib.hid (fun n => wrContains_any (.slice la l.length lc) l w.heap.size size (w3.drewN n) (k1.drewN n) hs3)
  clear hs hsd ht
  by_cases hcb : canB size 0 idx = true
  · have hcI : 1 ≤ size ∧ size ≤ 32 := by unfold canB at hcb; have := of_decide_eq_true hcb; omega
    rw [hcb] at HQ1 HRB
    clear hcb
    obtain ⟨n, rfl⟩ : ∃ n : Nat, size = n := ⟨size.toNat, by omega⟩
    have HQ2 := Lib.hid (fun m => chains_any n (w3.drewN m) (by omega))
    by_cases hm : (dg.length : Int) = (n : Int)
    · obtain rfl : dg.length = n := by omega
      clear hm
      by_cases hl : (l.length : Int) = 4 * (dg.length : Int) + 5
      · have f1 : ((l.length : Int) != 4 * (dg.length : Int) + 5) = false := by simpa using hl
        have f2 : ((l.length : Int) != ((4 * dg.length + 5 : Nat) : Int)) = false := by simpa using hl
        by_cases hp : ∃ p ∈ l, ¬ (p.length : Int) = (dg.length : Int)
        · rw [decide_eq_true hp] at HRB HQ3
          clear hp hl
          rw [show recB dg.length l idx dg.length = false by rw [HRB.out]; simp] at HE HL
          rw [if_neg (by decide)] at HE HL
          rw [HE.out]
          go_enter Tryz.func56, Tryz.ntmps56
          go_wp2
          go_quiet ((first | (go_at_call 70; exact quiet_left (HQ1.out _)) | (go_at_call 71; exact quiet_left (HQ2.out _)) | (go_at_call 55; exact quiet_left (HQ3.out _)) | (go_at_call 71; exact quiet_add_left (HQ2.out _)) | (go_at_call 55; exact quiet_add_left (HQ3.out _))))
          go_wp2
          go_ret2
          exact ⟨_, rfl, by rw [HL.out]; exact Sl.nil _, below_drewN0 hb3 _⟩
        · have hno := hp
          rw [decide_eq_false hp] at HRB HQ3
          rw [show recB dg.length l idx dg.length = true by rw [HRB.out]; simp [hl]] at HE HL
          rw [if_pos rfl] at HE HL
          rw [HE.out]
          rw [Int.toNat_natCast] at HL
          have HNO := Lib.hid hno
          have HLL := Lib.hid (show l.length = 4 * dg.length + 5 by omega)
          have hl32 : dg.length ≤ 32 := by omega
          clear hp hl hno
          go_enter Tryz.func56, Tryz.ntmps56
          go_wp2
          go_quiet ((first | (go_at_call 70; exact quiet_left (HQ1.out _)) | (go_at_call 71; exact quiet_left (HQ2.out _)) | (go_at_call 55; exact quiet_left (HQ3.out _)) | (go_at_call 71; exact quiet_add_left (HQ2.out _)) | (go_at_call 55; exact quiet_add_left (HQ3.out _))))
          go_wp2_with fail
          have hsd4 := hsd3.below (below_drewN0 (Below.refl w3.heap.size w3) nq) (Nat.le_refl _)
          refine (digits_short dg (.slice da dg.length dc) hBd hl32 _ hsd4).mono ?_
          rintro e w5 ⟨v1, rfl, hd1, hb5⟩
          have hb5 : Below w3.heap.size w3 w5 := (below_drewN0 (Below.refl w3.heap.size w3) nq).trans hb5
          obtain ⟨xa, xc, rfl, _, _⟩ := hd1.shape
          have k1 := k1.belowS hb5
          have k2 := k2.belowS hb5
          have k3 := k3.belowS hb5
          have hs5 := hs3.below hb5 (Nat.le_refl _)
          have ht5 := ht3.below hb5
          have hsz5 : w.heap.size + 1 + 1 < w5.heap.size := Nat.lt_of_lt_of_le hsz3 hb5.size
          have hb5 := hb3.trans (hb5.mono hb3.size)
          clear q1 q2 q3 hs3 ht3 hb3 hsd4
          have hdl := digits_len dg hl32
          have hdm := fun j => digits_mem (a := dg) hl32 j
          rw [List.length_map, hdl]
          rw [List.length_map, hdl] at hd1
          have HDL := Lib.hid hdl
          have HDM := Lib.hid hdm
          clear hdl hdm
          generalize digitsOf dg = DD at *
          have hb6 : Below w5.heap.size w5 (w5.alloc (.cells #[.slice xa (4 * dg.length + 5) xc] 70)) := (Below.refl _ _).alloc (Nat.le_refl _) _
          have k4 := Blk.new w5 70 #[.slice xa (4 * dg.length + 5) xc]
          have k1 := k1.belowS hb6
          have k2 := k2.belowS hb6
          have k3 := k3.belowS hb6
          have hs6 := hs5.below hb6 (Nat.le_refl _)
          have hd6 := hd1.below hb6 (Nat.le_refl _)
          have ht6 := ht5.below hb6
          have q1 : (w5.alloc (.cells #[.slice xa (4 * dg.length + 5) xc] 70)).cell? ⟨w.heap.size, 0, none⟩ = some (.int .i64 dg.length) := k1.cell 0
          have q3 : (w5.alloc (.cells #[.slice xa (4 * dg.length + 5) xc] 70)).cell? ⟨w.heap.size + 1 + 1, 0, none⟩ = some (.int .i64 idx) := k3.cell 0
          go_wp2_with fail
          generalize (w5.alloc (.cells #[.slice xa (4 * dg.length + 5) xc] 70)) = w6 at *
          refine (endRec_any w.heap.size (w.heap.size + 1) (w.heap.size + 1 + 1) w5.heap.size dg.length (by omega) idx hx0 hx1 (recK dg.length l idx DD) (recK_isB _ _ _ _ hB) (recK_len _ _ _ _) (fun wx => Below w6.heap.size w6 wx) (fun wx wy h1 h2 => below_trans2 h1 h2) ?hK w6 (Below.refl _ _) ht6).mono ?_
          case hK =>
            intro i wx hi hbx
            exact rec2_any dg.length (.slice la l.length lc) l idx (.slice xa (4 * dg.length + 5) xc) DD i _ _ _ _ wx hx0 hx1 (by have := HLL.out; omega) (by omega) (by rw [HDL.out]; exact hi) (HDM.out i) (k1.belowS hbx) (k2.belowS hbx) (k3.belowS hbx) (k4.belowS hbx) hB (hs6.below hbx (Nat.le_refl _)) (hd6.below hbx (Nat.le_refl _)) (by omega) HNO.out (ht6.below hbx)
          rintro e w7 ⟨x, rfl, hx, hb7⟩
          have hb7 := (hb5.trans (hb6.mono hb5.size)).trans (hb7.mono (Nat.le_trans hb5.size hb6.size))
          clear k1 k2 k3 k4 q1 q3 hs5 hs6 hd6 hd1 hb6 hb5
          go_wp2
          go_ret2
          exact ⟨_, rfl, by rw [HL.out]; exact hx, hb7⟩
      · have f1 : ((l.length : Int) != 4 * (dg.length : Int) + 5) = true := by simpa using hl
        have f2 : ((l.length : Int) != ((4 * dg.length + 5 : Nat) : Int)) = true := by simpa using hl
        rw [show recB dg.length l idx dg.length = false by rw [HRB.out]; simp [hl]] at HE HL
        rw [if_neg (by decide)] at HE HL
        rw [HE.out]
        clear hl
        go_enter Tryz.func56, Tryz.ntmps56
        go_wp2
        go_quiet ((first | (go_at_call 70; exact quiet_left (HQ1.out _)) | (go_at_call 71; exact quiet_left (HQ2.out _)) | (go_at_call 55; exact quiet_left (HQ3.out _)) | (go_at_call 71; exact quiet_add_left (HQ2.out _)) | (go_at_call 55; exact quiet_add_left (HQ3.out _))))
        go_wp2
        go_ret2
        exact ⟨_, rfl, by rw [HL.out]; exact Sl.nil _, below_drewN0 hb3 _⟩
    · have f1 : ((dg.length : Int) != (n : Int)) = true := by simpa using hm
      rw [show recB n l idx dg.length = false by rw [HRB.out]; simp [hm]] at HE HL
      rw [if_neg (by decide)] at HE HL
      rw [HE.out]
      go_enter Tryz.func56, Tryz.ntmps56
      go_wp2
      go_quiet ((first | (go_at_call 70; exact quiet_left (HQ1.out _)) | (go_at_call 71; exact quiet_left (HQ2.out _)) | (go_at_call 55; exact quiet_left (HQ3.out _)) | (go_at_call 71; exact quiet_add_left (HQ2.out _)) | (go_at_call 55; exact quiet_add_left (HQ3.out _))))
      go_wp2
      go_ret2
      exact ⟨_, rfl, by rw [HL.out]; exact Sl.nil _, below_drewN0 hb3 _⟩
  · rw [Bool.not_eq_true] at hcb
    rw [hcb] at HQ1 HRB
    rw [show recB size l idx dg.length = false by rw [HRB.out]; simp] at HE HL
    rw [if_neg (by decide)] at HE HL
    rw [HE.out]
    have HQ2 : Hid (∀ m : Nat, True) := fun _ => trivial
    clear hcb
    go_enter Tryz.func56, Tryz.ntmps56
    go_wp2
    go_quiet ((first | (go_at_call 70; exact quiet_left (HQ1.out _)) | (go_at_call 71; exact quiet_left (HQ2.out _)) | (go_at_call 55; exact quiet_left (HQ3.out _)) | (go_at_call 71; exact quiet_add_left (HQ2.out _)) | (go_at_call 55; exact quiet_add_left (HQ3.out _))))
    go_wp2
    go_ret2
    exact ⟨_, rfl, by rw [HL.out]; exact Sl.nil _, below_drewN0 hb3 _⟩

set_option maxRecDepth 100000 in
set_option maxHeartbeats 2000000 in
theorem refRecover_any (size : Int) (lv : Value) (l : List (List Int)) (idx : Int) (vd : Value) (dg : List Int) (w : World) (hz0 : -9223372036854775808 ≤ size) (hz1 : size ≤ 9223372036854775807) (hx0 : -9223372036854775808 ≤ idx) (hx1 : idx ≤ 9223372036854775807)
    (hB : ∀ p ∈ l, IsB p) (hs : Sls w lv l) (hBd : IsB dg) (hsd : Sl w vd (dg.map (Value.int .u8))) :
    Calls Tryz.prog 58 #[.int .i64 size, lv, .int .i64 idx, vd] w fun e w' => ∃ x, e = .returned (.tuple #[x, .int .i64 (recE size l idx dg.length)]) ∧ Sl w' x ((recL size l idx dg).map (Value.int .u8)) ∧ Below w.heap.size w w' := by
  obtain ⟨la, lc, rfl, hlc, hlm⟩ := hs.shape
  obtain ⟨da, dc, rfl, hdc, hdm⟩ := hsd.shape
  obtain ⟨i0, hi, hz0', hz1', hz2'⟩ := info_parts info8c
  rw [List.length_map] at *
  have HE := Lib.hid (show recE size l idx dg.length = if recB size l idx dg.length = true then 0 else 1 from rfl)
  have HL := Lib.hid (show recL size l idx dg = if recB size l idx dg.length = true then hashT size 8 [numI idx, catI (recK size l idx (digitsOf dg)) (4 * size.toNat + 5)] else [] from rfl)
  have HRB := Lib.hid (show recB size l idx dg.length = (canB size 0 idx && (decide ((dg.length : Int) = size) && (decide ((l.length : Int) = 4 * size + 5) && !decide (∃ p ∈ l, ¬ (p.length : Int) = size)))) from rfl)
  have HQ1 := Lib.hid (refCan_any size (.slice none 0 0) [] idx w (Sl.nil _))
  rw [show ([] : List Int).length = 0 from rfl] at HQ1
  by_cases hcb : canB size 0 idx = true
  · have hcI : 1 ≤ size ∧ size ≤ 32 := by unfold canB at hcb; have := of_decide_eq_true hcb; omega
    rw [hcb] at HQ1 HRB
    clear hcb
    obtain ⟨n, rfl⟩ : ∃ n : Nat, size = n := ⟨size.toNat, by omega⟩
    by_cases hm : (dg.length : Int) = (n : Int)
    · obtain rfl : dg.length = n := by omega
      clear hm
      by_cases hl : (l.length : Int) = 4 * (dg.length : Int) + 5
      · have f1 : ((l.length : Int) != 4 * (dg.length : Int) + 5) = false := by simpa using hl
        have HLL := Lib.hid (show l.length = 4 * dg.length + 5 by omega)
        rw [decide_eq_true hl] at HRB
        have hl32 : dg.length ≤ 32 := by omega
        have HDG := Lib.hid (refDigits_short dg (.slice da dg.length dc) hBd hl32 w hsd)
        have HDL := Lib.hid (digits_len dg hl32)
        have HDM := Lib.hid (fun j => digits_mem (a := dg) hl32 j)
        have HCB := Lib.hid (fun dd => recK_isB (dg.length : Int) l idx dd hB)
        have HCL := Lib.hid (fun dd => catI_len (recK_len (dg.length : Int) l idx dd))
        have HCL1 := Lib.hid (recK_len (dg.length : Int) l idx)
        have HBB := Lib.hid (getD_isB hB)
        generalize digitsOf dg = DD at *
        clear hl hB
        go_enter Tryz.func58, Tryz.ntmps58
        go_wp2_with fail
        refine HQ1.out.mono ?_
        rintro e w1 ⟨rfl, rfl⟩
        go_wp2_with fail
        refine HDG.out.mono ?_
        rintro e w1 ⟨v1, rfl, hd1, hb1⟩
        obtain ⟨xa, xc, rfl, _, _⟩ := hd1.shape
        rw [List.length_map, HDL.out]
        rw [List.length_map, HDL.out] at hd1
        have hs := hs.below hb1 (Nat.le_refl _)
        have hb1s := hb1.size
        clear HDG hsd HQ1
        go_wp2
        go_loopw [10, 36] (fun ends i wr => ∃ (k : Nat) (ev : Value), ev = ends ∧ k ≤ l.length ∧ i = .int .i64 k ∧ Hid (∀ j, j < k → ((l.getD j []).length : Int) = (dg.length : Int)) ∧ wr.ownsRow w1.heap.size 5 1 ev (catI (recK dg.length l idx DD) k).length ((catI (recK dg.length l idx DD) k).map (Value.int .u8)) ∧ Below w1.heap.size w1 wr) (fun _ i _ => l.length - (intOf i).toNat)
        case atStart => exact ⟨0, _, rfl, by omega, rfl, fun j hj => absurd hj (by omega), World.ownsRow_nil _ _ _ _, Below.refl _ _⟩
        case round =>
          obtain ⟨k, ev, rfl, hk, rfl, hall, hown, hbr⟩ := hrel
          by_cases hlt : k < l.length
          · obtain ⟨b, off, rfl, hb, u, hu, hsu⟩ := hs.at hlt
            have hu : wr.cell? ⟨b, off + k, none⟩ = some u := by rw [hbr.cell (p := ⟨b, off + k, none⟩) hb]; exact hu
            have hsu := hsu.below hbr (Nat.le_refl _)
            obtain ⟨xb, xo, rfl, hxb, hxc⟩ := hd1.ints (k := k) (by rw [HDL.out]; have := HLL.out; omega)
            have hxk : wr.cell? ⟨xb, xo + k, none⟩ = some (.int .i64 (DD.getD k 0)) := by rw [hbr.cell (p := ⟨xb, xo + k, none⟩) hxb]; exact hxc k (by rw [HDL.out]; have := HLL.out; omega)
            have hkI : (k : Int) < (l.length : Int) := by omega
            have hkD : (k : Int) < 4 * (dg.length : Int) + 5 := by have := HLL.out; omega
            obtain ⟨ua, uc, rfl, huc, hum⟩ := hsu.shape
            rw [List.length_map] at hu huc hsu
            have HRK := Lib.hid (show recK dg.length l idx DD k = chI dg.length idx k (DD.getD k 0) ((l.getD k []).take 32) (3 - (DD.getD k 0).toNat) from rfl)
            have hdm := HDM.out k
            have hPB := HBB.out k
            have HEX := Lib.hid (fun (h : ¬ ((l.getD k []).length : Int) = (dg.length : Int)) => (⟨l[k], List.getElem_mem hlt, by rw [List.getD_eq_getElem?_getD, List.getElem?_eq_getElem hlt] at h; exact h⟩ : ∃ p ∈ l, ¬ (p.length : Int) = (dg.length : Int)))
            have HALL := Lib.hid (fun (h : ((l.getD k []).length : Int) = (dg.length : Int)) => (fun j (hj : j < k + 1) => by
              rcases Nat.lt_or_ge j k with h1 | h1
              · exact hall.out j h1
              · obtain rfl : j = k := by omega
                exact h : ∀ j, j < k + 1 → ((l.getD j []).length : Int) = (dg.length : Int)))
            generalize l.getD k [] = P at *
            generalize DD.getD k 0 = D at *
            obtain ⟨d, rfl⟩ : ∃ d : Nat, D = d := ⟨D.toNat, by omega⟩
            rw [Int.toNat_natCast] at HRK
            clear hxc
            by_cases hP : (P.length : Int) = (dg.length : Int)
            · have hg1 : ((P.length : Int) != (dg.length : Int)) = false := by simpa using hP
              have hP32 : P.length ≤ 32 := by omega
              rw [List.take_of_length_le hP32] at HRK
              have HN := Lib.hid (HALL.out hP)
              have HLN := Lib.hid (show (catI (recK dg.length l idx DD) k).length + (recK dg.length l idx DD k).length ≤ 100000 by have := HCL.out DD k; have := HCL1.out DD k; have := HLL.out; omega)
              have HCS := Lib.hid (refChain3_any dg.length (.slice ua P.length uc) P idx k d wr hx0 hx1 (by omega) (by omega) (by omega) (by omega) hPB hsu)
              rw [← HRK.out] at HCS
              clear hP HALL HEX hPB hsu
              go_wp2_with fail
              refine HCS.out.mono ?_
              rintro e w3 ⟨x2, rfl, hx2, hb3⟩
              have hown := ownsRow_below hown hb3 (Nat.le_refl _)
              have hbr := hbr.trans (hb3.mono hbr.size)
              clear hb3 hu hxk HCS
              obtain ⟨ya, yn, yc, rfl⟩ := hx2.val
              go_wp2_with (at_builtin; refine wpList_append_sl rfl _ _ 22 rfl w1.heap.size 5 i0 (.int .u8 0) 1 Tryz.underlying22 hi hz0' hz1' hz2' rfl _ _ _ rfl hown (.slice ya yn yc) ((recK dg.length l idx DD k).map (Value.int .u8)) rfl hx2 (one8 _) (by have := HLN.out; rw [List.length_map]; unfold maxLen; omega) (by have := HLN.out; rw [List.length_map]; omega) hbr.size ?_)
              intro v3 w4 hown3 hg3
              have hb3 := below_grown hbr hown (Nat.le_refl _) hbr.size hg3
              clear hg3 hown hx2 hbr
              go_wp2
              go_roundw
              case rel => exact ⟨k + 1, v3, rfl, by omega, by go_num, HN.out, by simpa [catI] using hown3, hb3⟩
              case measure => simp [intOf]; omega
            · have hg1 : ((P.length : Int) != (dg.length : Int)) = true := by simpa using hP
              have hex := HEX.out hP
              rw [decide_eq_true hex] at HRB
              rw [show recB dg.length l idx dg.length = false by rw [HRB.out]; simp] at HE HL
              rw [if_neg (by decide)] at HE HL
              clear hex HALL HEX hP hall hown hPB hsu
              go_wp2
              go_ret2
              exact ⟨_, ret_two HE.out.symm, by rw [HL.out]; exact Sl.nil _, hb1.trans (hbr.mono hb1s)⟩
          · have hkI : ¬ (k : Int) < (l.length : Int) := by omega
            have hno : ¬ ∃ p ∈ l, ¬ (p.length : Int) = (dg.length : Int) := by
              rintro ⟨p, hp, hne⟩
              obtain ⟨j, hj, rfl⟩ := List.mem_iff_getElem.1 hp
              have := hall.out j (by omega)
              rw [List.getD_eq_getElem?_getD, List.getElem?_eq_getElem hj] at this
              exact hne this
            rw [decide_eq_false hno] at HRB
            rw [show recB dg.length l idx dg.length = true by rw [HRB.out]; simp] at HE HL
            rw [if_pos rfl] at HE HL
            rw [Int.toNat_natCast] at HL
            obtain rfl : k = 4 * dg.length + 5 := by have := HLL.out; omega
            have hs2 := Sl.of_owns hown
            have hCC := catI_isB (HCB.out DD) (4 * dg.length + 5)
            clear hno hown hall
            go_wp2_with fail
            refine (refKey0_any dg.length idx _ _ wr hx0 hx1 hCC hs2).mono ?_
            rintro e w2 ⟨y, rfl, hy, hb2⟩
            have hbr := hbr.trans (hb2.mono hbr.size)
            go_wp2
            go_ret2
            exact ⟨_, ret_two HE.out.symm, by rw [HL.out]; exact hy, hb1.trans (hbr.mono hb1s)⟩
      · have f1 : ((l.length : Int) != 4 * (dg.length : Int) + 5) = true := by simpa using hl
        rw [show recB dg.length l idx dg.length = false by rw [HRB.out]; simp [hl]] at HE HL
        rw [if_neg (by decide)] at HE HL
        rw [HE.out]
        clear hl
        go_enter Tryz.func58, Tryz.ntmps58
        go_wp2_with fail
        refine HQ1.out.mono ?_
        rintro e w1 ⟨rfl, rfl⟩
        go_wp2
        go_ret2
        exact ⟨_, rfl, by rw [HL.out]; exact Sl.nil _, Below.refl _ _⟩
    · have f1 : ((dg.length : Int) != (n : Int)) = true := by simpa using hm
      rw [show recB n l idx dg.length = false by rw [HRB.out]; simp [hm]] at HE HL
      rw [if_neg (by decide)] at HE HL
      rw [HE.out]
      go_enter Tryz.func58, Tryz.ntmps58
      go_wp2_with fail
      refine HQ1.out.mono ?_
      rintro e w1 ⟨rfl, rfl⟩
      go_wp2
      go_ret2
      exact ⟨_, rfl, by rw [HL.out]; exact Sl.nil _, Below.refl _ _⟩
  · rw [Bool.not_eq_true] at hcb
    rw [hcb] at HQ1 HRB
    rw [show recB size l idx dg.length = false by rw [HRB.out]; simp] at HE HL
    rw [if_neg (by decide)] at HE HL
    rw [HE.out]
    clear hcb
    go_enter Tryz.func58, Tryz.ntmps58
    go_wp2_with fail
    refine HQ1.out.mono ?_
    rintro e w1 ⟨rfl, rfl⟩
    go_wp2
    go_ret2
    exact ⟨_, rfl, by rw [HL.out]; exact Sl.nil _, Below.refl _ _⟩

end Go.Proofs.YtjhannlioddkkaaGreatDoor

namespace Go.Proofs.YtjhannlioddkkaaGreatDoor
open Go.RowKit
set_option linter.unusedVariables false

theorem digits255 : digitsOf [255] = [3, 3, 3, 3, 0, 0, 0, 0, 0] := by decide +kernel


end Go.Proofs.YtjhannlioddkkaaGreatDoor

namespace Go.Proofs.YtjhannlioddkkaaGreatDoor
open Go.RowKit
set_option linter.unusedVariables false

theorem texts_differ {ps qs : List (List Int)} {k : Nat} (h : ps.getD k [] ≠ qs.getD k []) : decide (ps = qs) = false := by
  simp only [decide_eq_false_iff_not]
  rintro rfl
  exact h rfl
theorem texts_same {ps qs : List (List Int)} (hl : ps.length = qs.length) (h : ∀ j, j < ps.length → ps.getD j [] = qs.getD j []) : decide (ps = qs) = true := by
  simp only [decide_eq_true_eq]
  refine List.ext_getElem hl fun j h1 h2 => ?_
  have := h j h1
  rwa [List.getD_eq_getElem?_getD, List.getD_eq_getElem?_getD, List.getElem?_eq_getElem h1, List.getElem?_eq_getElem h2] at this
theorem isB_at {ps : List (List Int)} (h : ∀ p ∈ ps, IsB p) {k : Nat} (hk : k < ps.length) : IsB (ps.getD k []) := h _ (by rw [List.getD_eq_getElem?_getD, List.getElem?_eq_getElem hk]; exact List.getElem_mem hk)

end Go.Proofs.YtjhannlioddkkaaGreatDoor

namespace Go.Proofs.YtjhannlioddkkaaGreatDoor
open Go.RowKit
set_option linter.unusedVariables false

theorem sgU_isB (size : Int) (seed : List Int) (idx : Int) (dd : List Int) (k : Nat) : ∀ p ∈ sgU size seed idx dd k, IsB p := fun p hp => by
  unfold sgU at hp
  obtain ⟨i, _, rfl⟩ := List.mem_map.1 hp
  exact chI_isB _ _ _ _ _ (secI_isB _ _ _ _) _
theorem signL_isB (size : Int) (seed : List Int) (idx : Int) (dg : List Int) : ∀ p ∈ signL size seed idx dg, IsB p := by
  unfold signL; split
  · exact sgU_isB _ _ _ _ _
  · intro p hp; cases hp

end Go.Proofs.YtjhannlioddkkaaGreatDoor

namespace Go.Proofs.YtjhannlioddkkaaGreatDoor
open Go.RowKit
set_option linter.unusedVariables false

/-- The hash of two of a level. -/
def pairT (size l p : Int) (x y : List Int) : List Int := hashT size 9 [numI l, numI p, x, y]
theorem pairT_isB (size l p : Int) (x y : List Int) : IsB (pairT size l p x y) := hashT_isB' _ _ _
theorem pairT_len (size l p : Int) (x y : List Int) : (pairT size l p x y).length ≤ 32 := hashT_len _ _ _
theorem keyL_len (size : Int) (seed : List Int) (idx : Int) : (keyL size seed idx).length ≤ 32 := by
  unfold keyL; split
  · exact hashT_len _ _ _
  · simp
/-- The p-th of the level above. -/
def upA (size l : Int) (L : List (List Int)) (p : Nat) : List Int := pairT size l p (L.getD (2 * p) []) (L.getD (2 * p + 1) [])
def upI (size l : Int) (L : List (List Int)) (n : Nat) : List (List Int) := (List.range n).map (upA size l L)
def botI (size : Int) (seed : List Int) (n : Nat) : List (List Int) := (List.range n).map fun i : Nat => keyL size seed i
def lvI (size : Int) (seed : List Int) (h : Nat) : Nat → List (List Int)
  | 0 => botI size seed (2 ^ h)
  | l + 1 => upI size (l + 1 : Nat) (lvI size seed h l) (2 ^ (h - (l + 1)))
def lvsI (size : Int) (seed : List Int) (h n : Nat) : List (List (List Int)) := (List.range n).map (lvI size seed h)

theorem botI_succ (size : Int) (seed : List Int) (n : Nat) : botI size seed (n + 1) = botI size seed n ++ [keyL size seed n] := by
  simp [botI, List.range_succ]
theorem upI_succ (size l : Int) (L : List (List Int)) (n : Nat) : upI size l L (n + 1) = upI size l L n ++ [upA size l L n] := by
  simp [upI, List.range_succ]
theorem lvsI_succ (size : Int) (seed : List Int) (h n : Nat) : lvsI size seed h (n + 1) = lvsI size seed h n ++ [lvI size seed h n] := by
  simp [lvsI, List.range_succ]
theorem botI_len (size : Int) (seed : List Int) (n : Nat) : (botI size seed n).length = n := by simp [botI]
theorem upI_len (size l : Int) (L : List (List Int)) (n : Nat) : (upI size l L n).length = n := by simp [upI]
theorem lvsI_len (size : Int) (seed : List Int) (h n : Nat) : (lvsI size seed h n).length = n := by simp [lvsI]
theorem lvI_len (size : Int) (seed : List Int) (h : Nat) : ∀ l, (lvI size seed h l).length = 2 ^ (h - l)
  | 0 => by rw [lvI, botI_len]; rfl
  | l + 1 => by rw [lvI, upI_len]
theorem lvsI_get (size : Int) (seed : List Int) (h n l : Nat) (hl : l < n) : (lvsI size seed h n)[l]? = some (lvI size seed h l) := by
  simp [lvsI, hl]
theorem two_half (h l : Nat) (hl : l < h) : 2 ^ (h - l) = 2 * 2 ^ (h - (l + 1)) := by
  rw [show h - l = (h - (l + 1)) + 1 by omega, Nat.pow_succ]; omega
theorem lvI_isB (size : Int) (seed : List Int) (h : Nat) : ∀ l, ∀ p ∈ lvI size seed h l, IsB p
  | 0 => by
    intro p hp
    simp only [lvI, botI, List.mem_map] at hp
    obtain ⟨i, _, rfl⟩ := hp
    exact keyL_isB _ _ _
  | l + 1 => by
    intro p hp
    simp only [lvI, upI, List.mem_map] at hp
    obtain ⟨i, _, rfl⟩ := hp
    exact pairT_isB _ _ _ _ _
theorem lvI_short (size : Int) (seed : List Int) (h : Nat) : ∀ l, ∀ p ∈ lvI size seed h l, p.length ≤ 32
  | 0 => by
    intro p hp
    simp only [lvI, botI, List.mem_map] at hp
    obtain ⟨i, _, rfl⟩ := hp
    exact keyL_len _ _ _
  | l + 1 => by
    intro p hp
    simp only [lvI, upI, List.mem_map] at hp
    obtain ⟨i, _, rfl⟩ := hp
    exact pairT_len _ _ _ _ _
theorem getD_mem {l : List (List Int)} {k : Nat} (hk : k < l.length) : l.getD k [] ∈ l := by
  rw [List.getD_eq_getElem?_getD, List.getElem?_eq_getElem hk]; exact List.getElem_mem _

theorem OSls.base {w : World} {b0 b1 : Nat} {v : Value} {pss : List (List Int)} (h : OSls w b1 v pss) (hb : b0 ≤ b1) : OSls w b0 v pss := by
  obtain ⟨vs, ⟨h1, h2⟩, h3⟩ := h
  exact ⟨vs, ⟨ownsRow_base h1 hb, h2⟩, h3⟩
/-- A list of texts stays where a row of another type grows. -/
theorem OSls.keepR {w w' : World} {base : Nat} {v : Value} {pss : List (List Int)} (h : OSls w base v pss) {b : Nat} {e : TypeId} {size : Nat} {r : Value} {n : Nat} {xs : List Value} (hown : OwnK w b e size r n xs) (hne : e ≠ 22) (hg : w.grownBy w' r.ownBlock) : OSls w' base v pss := by
  obtain ⟨vs, h1, h2⟩ := h
  have hn : ∀ g', v.ownBlock = some g' → some g' ≠ r.ownBlock := by
    intro g' hg' he
    obtain ⟨c1, k1, _⟩ := h1.2 g' hg'
    obtain ⟨c2, k2, _⟩ := hown.2 g' he.symm
    rw [k1] at k2
    injection k2 with k2
    injection k2 with _ k2
    exact hne k2.symm
  have hb : ∀ g', v.ownBlock = some g' → w'.heap[g']? = w.heap[g']? := fun g' hg' => hg.block g' (h1.1.lt g' hg').2 (hn g' hg')
  refine ⟨vs, ⟨⟨h1.1.1, ?_⟩, fun g' hg' => ?_⟩, h2.keepK hown hg⟩
  · rcases h1.1.2 with hx | ⟨g', cap, cur, rfl, hbg, hh, hr⟩
    · exact Or.inl hx
    · exact Or.inr ⟨g', cap, cur, rfl, hbg, (hb g' rfl).trans hh, hr⟩
  · obtain ⟨cur, hc1, hc2⟩ := h1.2 g' hg'
    exact ⟨cur, (hb g' hg').trans hc1, hc2⟩

def LvAll (w : World) : List Value → List (List (List Int)) → Prop
  | [], [] => True
  | u :: us, l :: ls => OSls w 0 u l ∧ LvAll w us ls
  | _, _ => False
theorem LvAll.len {w : World} : ∀ {us : List Value} {ls : List (List (List Int))}, LvAll w us ls → us.length = ls.length
  | [], [], _ => rfl
  | [], _ :: _, h => h.elim
  | _ :: _, [], h => h.elim
  | _ :: _, _ :: _, h => by simp [LvAll.len h.2]
theorem LvAll.at {w : World} : ∀ {us : List Value} {ls : List (List (List Int))}, LvAll w us ls → ∀ (i : Nat) (u : Value) (l : List (List Int)), us[i]? = some u → ls[i]? = some l → OSls w 0 u l
  | [], [], _, i, u, l, hu, _ => by simp at hu
  | [], _ :: _, h, _, _, _, _, _ => h.elim
  | _ :: _, [], h, _, _, _, _, _ => h.elim
  | u0 :: us, l0 :: ls, h, 0, u, l, hu, hl => by
    simp at hu hl; subst hu hl; exact h.1
  | u0 :: us, l0 :: ls, h, i + 1, u, l, hu, hl => LvAll.at h.2 i u l (by simpa using hu) (by simpa using hl)
theorem LvAll.mono {w w' : World} (f : ∀ u l, OSls w 0 u l → OSls w' 0 u l) : ∀ {us : List Value} {ls : List (List (List Int))}, LvAll w us ls → LvAll w' us ls
  | [], [], _ => trivial
  | [], _ :: _, h => h.elim
  | _ :: _, [], h => h.elim
  | _ :: _, _ :: _, h => ⟨f _ _ h.1, LvAll.mono f h.2⟩
theorem LvAll.snoc {w : World} {u : Value} {l : List (List Int)} (hu : OSls w 0 u l) : ∀ {us : List Value} {ls : List (List (List Int))}, LvAll w us ls → LvAll w (us ++ [u]) (ls ++ [l])
  | [], [], _ => ⟨hu, trivial⟩
  | [], _ :: _, h => h.elim
  | _ :: _, [], h => h.elim
  | _ :: _, _ :: _, h => ⟨h.1, LvAll.snoc hu h.2⟩

/-- A list of lists of texts that the call makes. -/
def OLv (w : World) (base : Nat) (v : Value) (ll : List (List (List Int))) : Prop := ∃ vs, OwnK w base 23 1 v ll.length vs ∧ LvAll w vs ll
theorem OLv.nil (w : World) (base : Nat) : OLv w base (.slice none 0 0) [] := ⟨[], OwnK.nil _ _ _ _, trivial⟩
theorem OLv.below {w w' : World} {base : Nat} {v : Value} {ll : List (List (List Int))} (h : OLv w base v ll) (hb : Below w.heap.size w w') : OLv w' base v ll := by
  obtain ⟨vs, h1, h2⟩ := h
  exact ⟨vs, h1.below hb (Nat.le_refl _), h2.mono fun u l hu => hu.below hb⟩
theorem OLv.base {w : World} {b0 b1 : Nat} {v : Value} {ll : List (List (List Int))} (h : OLv w b1 v ll) (hb : b0 ≤ b1) : OLv w b0 v ll := by
  obtain ⟨vs, ⟨h1, h2⟩, h3⟩ := h
  exact ⟨vs, ⟨ownsRow_base h1 hb, h2⟩, h3⟩
theorem OLv.val {w : World} {base : Nat} {v : Value} {ll : List (List (List Int))} (h : OLv w base v ll) : ∃ a c, v = .slice a ll.length c := by
  obtain ⟨vs, h1, h2⟩ := h
  obtain ⟨a, c, h3, _⟩ := (Sl.of_owns h1.1).shape
  rw [h2.len] at h3
  exact ⟨a, c, h3⟩
/-- A level of it. -/
theorem OLv.at {w : World} {base : Nat} {a : Option Addr} {n cap : Nat} {ll : List (List (List Int))} (h : OLv w base (.slice a n cap) ll) {k : Nat} {l : List (List Int)} (hk : ll[k]? = some l) :
    ∃ b off u, a = some ⟨b, off, none⟩ ∧ b < w.heap.size ∧ w.cell? ⟨b, off + k, none⟩ = some u ∧ OSls w 0 u l := by
  obtain ⟨vs, h1, h2⟩ := h
  have hkl : k < vs.length := by
    rw [h2.len]
    rcases Nat.lt_or_ge k ll.length with hlt | hge
    · exact hlt
    · rw [List.getElem?_eq_none hge] at hk; cases hk
  obtain ⟨b, off, rfl, hb, hc⟩ := (Sl.of_owns h1.1).addr (by omega)
  have hu : vs[k]? = some vs[k] := List.getElem?_eq_getElem hkl
  exact ⟨b, off, vs[k], rfl, hb, hc k _ hu, h2.at k _ _ hu hk⟩
theorem OSls.keepM {w w' : World} {base : Nat} {v : Value} {pss : List (List Int)} (h : OSls w base v pss) {g : Nat} {t : TypeId} {cs : Array Value} (k : Blk w g t cs) (hne1 : 22 ≠ t) (hcs : ∀ (j : Nat) (n : Int), cs[j]? ≠ some (.int .u8 n)) (hg : w.grownBy w' (some g)) : OSls w' base v pss := by
  obtain ⟨us, k1, k2⟩ := h
  have hn : v.ownBlock ≠ some g := own_blk_ne k1.1 k hne1
  refine ⟨us, ⟨k1.1.kept hg (.inr hn), fun g' hg' => ?_⟩, ?_⟩
  · obtain ⟨cur, hc1, hc2⟩ := k1.2 g' hg'
    exact ⟨cur, (hg.block g' (k1.1.lt g' hg').2 (fun e => hn (by rw [hg', e]))).trans hc1, hc2⟩
  · have key : ∀ {us : List Value} {ps : List (List Int)}, SlAll w us ps → SlAll w' us ps := by
      intro us
      induction us with
      | nil => intro ps h; cases ps with
        | nil => trivial
        | cons _ _ => exact h.elim
      | cons u us ih => intro ps h; cases ps with
        | nil => exact h.elim
        | cons p ps => exact ⟨h.1.keepG k hcs hg, ih h.2⟩
    exact key k2
theorem OLv.keepGk {w w' : World} {base : Nat} {v : Value} {ll : List (List (List Int))} (h : OLv w base v ll) {g : Nat} {t : TypeId} {cs : Array Value} (k : Blk w g t cs) (hne : 23 ≠ t) (hne1 : 22 ≠ t) (hcs : ∀ (j : Nat) (n : Int), cs[j]? ≠ some (.int .u8 n)) (hg : w.grownBy w' (some g)) : OLv w' base v ll := by
  obtain ⟨vs, h1, h2⟩ := h
  have hn : v.ownBlock ≠ some g := own_blk_ne h1.1 k hne
  refine ⟨vs, ⟨h1.1.kept hg (.inr hn), fun g' hg' => ?_⟩, h2.mono fun u l hu => hu.keepM k hne1 hcs hg⟩
  obtain ⟨cur, hc1, hc2⟩ := h1.2 g' hg'
  exact ⟨cur, (hg.block g' (h1.1.lt g' hg').2 (fun e => hn (by rw [hg', e]))).trans hc1, hc2⟩

/-- A literal of one level. -/
theorem OLv.lit {w : World} {base : Nat} {u : Value} {l : List (List Int)} (hu : OSls w 0 u l) (hbase : base ≤ w.heap.size) : OLv (w.alloc (.cells #[u] 23)) base (.slice (some ⟨w.heap.size, 0, none⟩) 1 1) [l] := by
  have h := World.ownsRow_lit (base := base) (e := 23) (size := 1) w #[u] 1 hbase (by simp [maxLen]) (by simp)
  have hb : Below w.heap.size w (w.alloc (.cells #[u] 23)) := (Below.refl _ _).alloc (Nat.le_refl _) _
  refine ⟨[u], ⟨h, fun g hg => ?_⟩, ⟨hu.below hb, trivial⟩⟩
  have : w.heap.size = g := by simpa [Value.ownBlock] using hg
  subst this
  obtain ⟨a, c, rfl⟩ := hu.val
  exact ⟨_, heap_alloc_new w _, fun c hc => by simp at hc; subst hc; exact notB_slice _ _ _⟩

theorem only_below0 {a w w1 : World} {row : Option Nat} (h : a.grownBy w row) (hb : Below a.heap.size w w1) : a.grownBy w1 row :=
  ⟨hb.os.trans h.os, hb.tape.trans h.tape, hb.output.trans h.output, Nat.le_trans h.size hb.size, fun i hi hne => (hb.block i hi).trans (h.block i hi hne)⟩

theorem infoL : (Tryz.prog.info? 23).map (fun i => (i.zero, i.size, i.bytes)) = some (some (.slice none 0 0), 1, 24) := by kernel_rfl

theorem wpList_append_level {w : World} {ops : Array Oper} {rest : List Oper} {o : Oper} {a : Act} {Q : Exit → Act → World → Prop} (hgd : o.guard = none) (s x : Operand)
    (ho : o.op = .call { callee := .builtin .append, args := #[s, x], argTypes := #[65, 65] })
    (base : Nat) (v : Value) (ll : List (List (List Int))) (hs : a.eval s = v) (hown : OLv w base v ll)
    (b cap : Nat) (hx : a.eval x = .slice (some ⟨b, 0, none⟩) 1 cap) (u : Value) (hc : w.cell? ⟨b, 0, none⟩ = some u) (l : List (List Int)) (hu : OSls w 0 u l)
    (h63 : ll.length + 1 ≤ 5000000000000) (hbase : base ≤ w.heap.size)
    (h : ∀ v' w', OLv w' base v' (ll ++ [l]) → Below base w w' → w.grownBy w' v.ownBlock → wpList Tryz.prog ops Q rest (a.put o.dst v') w') : wpList Tryz.prog ops Q (o :: rest) a w := by
  obtain ⟨vs, h1, h2⟩ := hown
  obtain ⟨i0, hi, hz0, hz1, hz2⟩ := info_parts infoL
  obtain ⟨ua, uc, rfl⟩ := hu.val
  obtain ⟨v', w', hrun, hown', hg⟩ := run_append_ownK (P := Tryz.prog) w base 65 o.type 23 i0 (.slice none 0 0) 1 24 Tryz.underlying65 hi hz0 hz1 hz2 rfl (by decide) (by intro c hc; simp [Value.cells] at hc; subst hc; exact notB_slice _ _ _) v ll.length vs h1 ⟨b, 0, none⟩ 1 cap [.slice ua l.length uc] rfl
    (fun j y hj => by
      match j, hj with
      | 0, hj => simp at hj; subst hj; exact hc
      | j + 1, hj => simp at hj) (by simp [Value.oneCell']) (by simp [notB_slice]) (by unfold maxLen; omega) (by omega) hbase
  refine wpList_plain hgd fun K hK => ?_
  unfold Oper.wp
  simp [execOp, ho, resolve, invoke, builtin, hs, hx, hrun, Result.andThen]
  refine hK _ _ (h v' w' ⟨_, by simpa using hown', (h2.mono fun u l hu => hu.keepR h1 (by decide) hg).snoc (hu.keepR h1 (by decide) hg)⟩ ?_ hg)
  exact (Below.refl _ _).grown hg hbase (fun k hk => (h1.1.lt k hk).1)

theorem step_append_textM {w : World} {ops : Array Oper} {o : Oper} {a : Act} {K : Act → World → Prop} {Q : Exit → Act → World → Prop} {E : Prop} (hgd : o.guard = none) (s x : Operand)
    (ho : o.op = .call { callee := .builtin .append, args := #[s, x], argTypes := #[23, 23] })
    (base : Nat) (v : Value) (pss : List (List Int)) (hs : a.eval s = v) (hown : OSls w base v pss)
    (b cap : Nat) (hx : a.eval x = .slice (some ⟨b, 0, none⟩) 1 cap) (u : Value) (hc : w.cell? ⟨b, 0, none⟩ = some u) (p : List Int) (hu : Sl w u (p.map (Value.int .u8)))
    (h63 : pss.length + 1 ≤ 5000000000000) (hbase : base ≤ w.heap.size)
    (h : ∀ v' w', OSls w' base v' (pss ++ [p]) → Below base w w' → w.grownBy w' v.ownBlock → K (a.put o.dst v') w') : if Region.wanted o (yielded ops a.tmps) = true then Oper.wp Tryz.prog o a w K Q else E := by
  have hw : Region.wanted o (yielded ops a.tmps) = true := by simp [Region.wanted, hgd]
  rw [if_pos hw]
  obtain ⟨vs, h1, h2⟩ := hown
  obtain ⟨i0, hi, hz0, hz1, hz2⟩ := info_parts infoT
  obtain ⟨ua, un, uc, rfl⟩ := hu.val
  obtain ⟨v', w', hrun, hown', hg⟩ := run_append_ownK (P := Tryz.prog) w base 23 o.type 22 i0 (.slice none 0 0) 1 24 Tryz.underlying23 hi hz0 hz1 hz2 rfl (by decide) (by intro c hc; simp [Value.cells] at hc; subst hc; exact notB_slice _ _ _) v pss.length vs h1 ⟨b, 0, none⟩ 1 cap [.slice ua un uc] rfl
    (fun j y hj => by
      match j, hj with
      | 0, hj => simp at hj; subst hj; exact hc
      | j + 1, hj => simp at hj) (by simp [Value.oneCell']) (by simp [notB_slice]) (by unfold maxLen; omega) (by omega) hbase
  unfold Oper.wp execOp
  simp only [ho, resolve, invoke, builtin, Sem.run_bind, Sem.run_pure, Result.andThen_ok, List.map_toArray, List.map_cons, List.map_nil, hs, hx, hrun]
  exact h v' w' ⟨_, by simpa using hown', (h2.keepK h1 hg).snoc (hu.keepK h1 hg)⟩ ((Below.refl _ _).grown hg hbase (fun k hk => (h1.1.lt k hk).1)) hg

end Go.Proofs.YtjhannlioddkkaaGreatDoor

namespace Go.Proofs.YtjhannlioddkkaaGreatDoor
open Go.RowKit
set_option linter.unusedVariables false

set_option maxHeartbeats 1000000 in
theorem mpair_any (size l p : Int) (v1 v2 : Value) (b1 b2 : List Int) (w : World) (hl0 : -9223372036854775808 ≤ l) (hl1 : l ≤ 9223372036854775807) (hp0 : -9223372036854775808 ≤ p) (hp1 : p ≤ 9223372036854775807) (hB1 : IsB b1) (hB2 : IsB b2) (h1 : Sl w v1 (b1.map (Value.int .u8))) (h2 : Sl w v2 (b2.map (Value.int .u8))) (ht : Tabs w) :
    Calls Tryz.prog 57 #[.int .i64 size, .int .i64 l, .int .i64 p, v1, v2] w fun e w' => ∃ x, e = .returned x ∧ Sl w' x ((pairT size l p b1 b2).map (Value.int .u8)) ∧ Below w.heap.size w w' := by
  obtain ⟨va, vn, vc, rfl⟩ := h1.val
  obtain ⟨ua, un, uc, rfl⟩ := h2.val
  go_enter Tryz.func57, Tryz.ntmps57
  go_wp2_with fail
  refine (number_any l w hl0 hl1).mono ?_
  rintro e w2 ⟨n1, rfl, hn1, hb2⟩
  have h1 := h1.below hb2 (Nat.le_refl _)
  have h2 := h2.below hb2 (Nat.le_refl _)
  have ht := ht.below hb2
  go_wp2_with fail
  refine (number_any p w2 hp0 hp1).mono ?_
  rintro e w3 ⟨n2, rfl, hn2, hb3⟩
  have h1 := h1.below hb3 (Nat.le_refl _)
  have h2 := h2.below hb3 (Nat.le_refl _)
  have hn1 := hn1.below hb3 (Nat.le_refl _)
  have ht := ht.below hb3
  have hb3 := below_trans2 hb2 hb3
  clear hb2
  obtain ⟨a1, l1, c1, rfl⟩ := hn1.val
  obtain ⟨a2, l2, c2, rfl⟩ := hn2.val
  have hL := Sls.litA _ 22 (show SlAll w3 [.slice a1 l1 c1, .slice a2 l2 c2, .slice va vn vc, .slice ua un uc] [numI l, numI p, b1, b2] from ⟨hn1, hn2, h1, h2, trivial⟩) (by simp [maxLen])
  have hbA := hb3.alloc hb3.size (.cells #[.slice a1 l1 c1, .slice a2 l2 c2, .slice va vn vc, .slice ua un uc] 22)
  have htA := ht.below ((Below.refl _ _).alloc (Nat.le_refl _) (.cells #[.slice a1 l1 c1, .slice a2 l2 c2, .slice va vn vc, .slice ua un uc] 22))
  have HH := Lib.hid (hash_any size 9 _ _ _ (by simp) (by decide) (by decide) hL (fun p hp => by
    simp only [List.mem_cons, List.not_mem_nil, or_false] at hp
    rcases hp with rfl | rfl | rfl | rfl
    · exact numI_isB _
    · exact numI_isB _
    · exact hB1
    · exact hB2) htA)
  rw [show hashT size 9 [numI l, numI p, b1, b2] = pairT size l p b1 b2 from rfl] at HH
  clear hL htA ht h1 h2 hn1 hn2 hb3
  go_wp2_with fail
  refine HH.out.mono ?_
  rintro e w5 ⟨y, rfl, hy, hb5⟩
  have hbr := hbA.trans (hb5.mono hbA.size)
  go_wp2
  go_ret
  exact ⟨_, rfl, hy, hbr⟩

set_option maxHeartbeats 1000000 in
theorem refMpair_any (size l p : Int) (v1 v2 : Value) (b1 b2 : List Int) (w : World) (hl0 : -9223372036854775808 ≤ l) (hl1 : l ≤ 9223372036854775807) (hp0 : -9223372036854775808 ≤ p) (hp1 : p ≤ 9223372036854775807) (hB1 : IsB b1) (hB2 : IsB b2) (hn1 : b1.length ≤ 140737488351232) (hn2 : b2.length ≤ 140737488351232) (h1 : Sl w v1 (b1.map (Value.int .u8))) (h2 : Sl w v2 (b2.map (Value.int .u8))) :
    Calls Tryz.prog 59 #[.int .i64 size, .int .i64 l, .int .i64 p, v1, v2] w fun e w' => ∃ x, e = .returned x ∧ Sl w' x ((pairT size l p b1 b2).map (Value.int .u8)) ∧ Below w.heap.size w w' := by
  have ht : True := trivial
  obtain ⟨va, vn, vc, rfl⟩ := h1.val
  obtain ⟨ua, un, uc, rfl⟩ := h2.val
  go_enter Tryz.func59, Tryz.ntmps59
  go_wp2_with fail
  refine (refNumber_any l w hl0 hl1).mono ?_
  rintro e w2 ⟨n1, rfl, hn1, hb2⟩
  have h1 := h1.below hb2 (Nat.le_refl _)
  have h2 := h2.below hb2 (Nat.le_refl _)
  go_wp2_with fail
  refine (refNumber_any p w2 hp0 hp1).mono ?_
  rintro e w3 ⟨n2, rfl, hn2, hb3⟩
  have h1 := h1.below hb3 (Nat.le_refl _)
  have h2 := h2.below hb3 (Nat.le_refl _)
  have hn1 := hn1.below hb3 (Nat.le_refl _)
  have hb3 := below_trans2 hb2 hb3
  clear hb2
  obtain ⟨a1, l1, c1, rfl⟩ := hn1.val
  obtain ⟨a2, l2, c2, rfl⟩ := hn2.val
  have hL := Sls.litA _ 22 (show SlAll w3 [.slice a1 l1 c1, .slice a2 l2 c2, .slice va vn vc, .slice ua un uc] [numI l, numI p, b1, b2] from ⟨hn1, hn2, h1, h2, trivial⟩) (by simp [maxLen])
  have hbA := hb3.alloc hb3.size (.cells #[.slice a1 l1 c1, .slice a2 l2 c2, .slice va vn vc, .slice ua un uc] 22)
  have HH := Lib.hid (refHash_any size 9 _ _ _ (by simp) (by decide) (by decide) hL (fun p hp => by
    simp only [List.mem_cons, List.not_mem_nil, or_false] at hp
    rcases hp with rfl | rfl | rfl | rfl
    · exact numI_isB _
    · exact numI_isB _
    · exact hB1
    · exact hB2))
  rw [show hashT size 9 [numI l, numI p, b1, b2] = pairT size l p b1 b2 from rfl] at HH
  clear hL ht h1 h2 hn1 hn2 hb3
  go_wp2_with fail
  refine HH.out.mono ?_
  rintro e w5 ⟨y, rfl, hy, hb5⟩
  have hbr := hbA.trans (hb5.mono hbA.size)
  go_wp2
  go_ret
  exact ⟨_, rfl, hy, hbr⟩

end Go.Proofs.YtjhannlioddkkaaGreatDoor

namespace Go.Proofs.YtjhannlioddkkaaGreatDoor
open Go.RowKit
set_option linter.unusedVariables false

theorem mvOdd_any (v : Value) (bs : List Int) (cs : Nat) (size : Int) (w : World) (hz : Blk w cs 3 #[.int .i64 size]) (hs : Sl w v (bs.map (Value.int .u8))) :
    Calls Tryz.prog 54 #[v, .pointer (some ⟨cs, 0, none⟩)] w fun e w' => e = .returned (.bool (decide (¬ (bs.length : Int) = size))) ∧ w = w' := by
  obtain ⟨a, cap, rfl, hc, hm⟩ := hs.shape
  rw [List.length_map] at *
  have hz0 := hz.cell 0
  obtain ⟨bb, hbb⟩ : ∃ bb, bb = decide (¬ (bs.length : Int) = size) := ⟨_, rfl⟩
  rw [← hbb]
  have HB := Lib.hid hbb
  clear hbb
  go_enter Tryz.func54, Tryz.ntmps54
  go_wp2
  go_ret
  exact ⟨ret_bool (by rw [HB.out]; by_cases h : (bs.length : Int) = size <;> simp [h]), rfl⟩

set_option maxHeartbeats 1000000 in
theorem mvIndex_any (v : Value) (pss : List (List Int)) (cs : Nat) (size : Int) (w : World) (hz : Blk w cs 3 #[.int .i64 size]) (h : Sls w v pss) :
    Calls Tryz.prog 68 #[v, .func (.func 54) #[] #[.pointer (some ⟨cs, 0, none⟩)]] w fun e w' => ∃ r : Int, e = .returned (.int .i64 r) ∧ (0 ≤ r ↔ ∃ p ∈ pss, ¬ (p.length : Int) = size) ∧ w = w' := by
  obtain ⟨a, cap, rfl, hc, hm⟩ := h.shape
  go_enter Tryz.func68, Tryz.ntmps68
  go_wp2
  go_loopw [8] (fun i wr => ∃ k : Nat, k ≤ pss.length ∧ i = .int .i64 k ∧ Hid (∀ j, j < k → ¬ ¬ ((pss.getD j []).length : Int) = size) ∧ w = wr) (fun i _ => pss.length - (intOf i).toNat)
  case atStart => exact ⟨0, by omega, rfl, fun j hj => absurd hj (by omega), rfl⟩
  case round =>
    obtain ⟨k, hk, rfl, hall, rfl⟩ := hrel
    by_cases hlt : k < pss.length
    · obtain ⟨b, off, rfl, hb, u, hu, hs⟩ := h.at hlt
      have hkI : (k : Int) < (pss.length : Int) := by omega
      go_wp2_with fail
      refine (mvOdd_any u _ cs size w hz hs).mono ?_
      by_cases hl : ¬ ((pss.getD k []).length : Int) = size
      · rw [show decide (¬ ((pss.getD k []).length : Int) = size) = true by simpa using hl]
        rintro e w1 ⟨rfl, rfl⟩
        have HL := Lib.hid hl
        clear hl hs hu
        go_wp2
        go_ret
        refine ⟨_, rfl, ⟨fun _ => ⟨pss[k], List.getElem_mem hlt, ?_⟩, fun _ => by omega⟩, rfl⟩
        have := HL.out
        rwa [List.getD_eq_getElem?_getD, List.getElem?_eq_getElem hlt] at this
      · rw [show decide (¬ ((pss.getD k []).length : Int) = size) = false by simpa using hl]
        rintro e w1 ⟨rfl, rfl⟩
        have HL := Lib.hid hl
        clear hl hs hu
        go_wp2
        go_roundw
        case rel =>
          refine ⟨k + 1, by omega, by go_num, fun j hj => ?_, by first | rfl | trivial⟩
          rcases Nat.lt_or_ge j k with h | h
          · exact hall.out j h
          · obtain rfl : j = k := by omega
            exact HL.out
        case measure => simp [intOf]; omega
    · have hkI : ¬ (k : Int) < (pss.length : Int) := by omega
      go_wp2
      go_ret
      refine ⟨_, rfl, ⟨fun h0 => absurd h0 (by decide), fun ⟨p, hp, hl⟩ => ?_⟩, rfl⟩
      obtain ⟨j, hj, rfl⟩ := List.mem_iff_getElem.1 hp
      have := hall.out j (by omega)
      rw [List.getD_eq_getElem?_getD, List.getElem?_eq_getElem hj] at this
      exact absurd hl this

theorem mvContains_any (v : Value) (pss : List (List Int)) (cs : Nat) (size : Int) (w : World) (hz : Blk w cs 3 #[.int .i64 size]) (h : Sls w v pss) :
    Calls Tryz.prog 55 #[v, .func (.func 54) #[] #[.pointer (some ⟨cs, 0, none⟩)]] w fun e w' => e = .returned (.bool (decide (∃ p ∈ pss, ¬ (p.length : Int) = size))) ∧ w = w' := by
  have hi := Lib.hid (mvIndex_any v pss cs size w hz h)
  go_enter Tryz.func55, Tryz.ntmps55
  go_wp2_with fail
  refine hi.out.mono ?_
  rintro e w1 ⟨r, rfl, hr, rfl⟩
  have HR := Lib.hid hr
  clear hr
  go_wp2
  go_ret
  exact ⟨ret_bool (by rw [decide_eq_decide]; exact HR.out), rfl⟩


end Go.Proofs.YtjhannlioddkkaaGreatDoor

namespace Go.Proofs.YtjhannlioddkkaaGreatDoor
open Go.RowKit
set_option linter.unusedVariables false

/-- The hash of the k-th level on a way up. -/
def climbI (size : Int) (idx : Nat) (x : List Int) (path : List (List Int)) : Nat → List Int
  | 0 => x
  | k + 1 => if idx / 2 ^ k % 2 = 1 then pairT size ((k : Int) + 1) ((idx / 2 ^ k / 2 : Nat) : Int) (path.getD k []) (climbI size idx x path k) else pairT size ((k : Int) + 1) ((idx / 2 ^ k / 2 : Nat) : Int) (climbI size idx x path k) (path.getD k [])
theorem climbI_isB (size : Int) (idx : Nat) (x : List Int) (path : List (List Int)) (h : IsB x) : ∀ k, IsB (climbI size idx x path k)
  | 0 => h
  | k + 1 => by
    rw [climbI]; split
    · exact pairT_isB _ _ _ _ _
    · exact pairT_isB _ _ _ _ _
def verOk (size h idx : Int) (l path : List (List Int)) (m : Nat) : Prop :=
  mcanB size h = true ∧ 0 ≤ idx ∧ idx < 2 ^ h.toNat ∧ (path.length : Int) = h ∧ (¬ ∃ p ∈ path, ¬ (p.length : Int) = size) ∧ recE size l idx m = 0
instance (size h idx : Int) (l path : List (List Int)) (m : Nat) : Decidable (verOk size h idx l path m) := by unfold verOk; infer_instance
def verB (size : Int) (pub : List Int) (h : Int) (dg : List Int) (idx : Int) (l path : List (List Int)) : Bool :=
  if verOk size h idx l path dg.length then decide (climbI size idx.toNat (recL size l idx dg) path path.length = pub) else false
theorem recE_or (size : Int) (l : List (List Int)) (idx : Int) (m : Nat) : recE size l idx m = 0 ∨ recE size l idx m = 1 := by unfold recE; split <;> simp

theorem and_one (P : Nat) (h : P < 9223372036854775808) : bits BinOp.and IntKind.i64 (P : Int) 1 = ((P % 2 : Nat) : Int) := by
  have hx : P &&& 1 = P % 2 := Nat.and_one_is_mod P
  have h1 : (BitVec.ofInt 64 (P : Int)).toNat = P := by
    rw [BitVec.ofInt_natCast, BitVec.toNat_ofNat]; exact Nat.mod_eq_of_lt (by omega)
  have h2 : (BitVec.ofInt 64 1).toNat = 1 := by decide
  show IntKind.i64.wrap ((BitVec.ofInt 64 (P : Int) &&& BitVec.ofInt 64 1).toNat : Int) = _
  rw [BitVec.toNat_and, h1, h2, hx, IntKind.wrap_i64]
  omega

set_option maxRecDepth 100000 in
set_option maxHeartbeats 8000000 in
theorem verify_any (size : Int) (vp : Value) (pub : List Int) (h : Int) (vd : Value) (dg : List Int) (sv : Value) (idx : Int) (l path : List (List Int)) (w : World) (hz0 : -9223372036854775808 ≤ size) (hz1 : size ≤ 9223372036854775807) (hx0 : -9223372036854775808 ≤ idx) (hx1 : idx ≤ 9223372036854775807)
    (hBp : IsB pub) (hp : Sl w vp (pub.map (Value.int .u8))) (hBd : IsB dg) (hd : Sl w vd (dg.map (Value.int .u8))) (hBl : ∀ p ∈ l, IsB p) (hBq : ∀ p ∈ path, IsB p) (hg : SigV w sv idx l path) (ht : Tabs w) :
    Calls Tryz.prog 33 #[.int .i64 size, vp, .int .i64 h, vd, sv] w fun e w' => e = .returned (.bool (verB size pub h dg idx l path)) ∧ Below w.heap.size w w' := by
  obtain ⟨pa, pc, qa, qc, rfl⟩ := hg.val
  obtain ⟨g1, g2⟩ := hg.parts
  obtain ⟨pva, pvn, pvc, rfl⟩ := hp.val
  obtain ⟨dva, dvn, dvc, rfl⟩ := hd.val
  have hb1 : Below w.heap.size w (w.alloc (.cells #[.int .i64 size] 3)) := (Below.refl _ _).alloc (Nat.le_refl _) _
  have hb2 : Below w.heap.size w ((w.alloc (.cells #[.int .i64 size] 3)).alloc (.cells #[.int .i64 idx, .slice pa l.length pc, .slice qa path.length qc] 27)) := hb1.alloc hb1.size _
  have k1 : Blk ((w.alloc (.cells #[.int .i64 size] 3)).alloc (.cells #[.int .i64 idx, .slice pa l.length pc, .slice qa path.length qc] 27)) w.heap.size 3 #[.int .i64 size] := (Blk.new w _ _).alloc _
  have k2 : Blk ((w.alloc (.cells #[.int .i64 size] 3)).alloc (.cells #[.int .i64 idx, .slice pa l.length pc, .slice qa path.length qc] 27)) (w.heap.size + 1) 27 #[.int .i64 idx, .slice pa l.length pc, .slice qa path.length qc] := by
    have := Blk.new (w.alloc (.cells #[.int .i64 size] 3)) 27 #[.int .i64 idx, .slice pa l.length pc, .slice qa path.length qc]
    simpa using this
  have hmf : ∀ (fn : Fn) (first cap : Array Value) (w : World), (Instr.makeFunc fn first cap).run Tryz.prog w = .ok (.func fn first cap) w := fun _ _ _ _ => rfl
  have HP := Lib.hid (hp.below hb2 (Nat.le_refl _))
  have HD := Lib.hid (hd.below hb2 (Nat.le_refl _))
  have HG1 := Lib.hid (g1.below hb2 (Nat.le_refl _))
  have HG2 := Lib.hid (g2.below hb2 (Nat.le_refl _))
  have HT := Lib.hid (ht.below hb2)
  have HV := Lib.hid (show verB size pub h dg idx l path = if verOk size h idx l path dg.length then decide (climbI size idx.toNat (recL size l idx dg) path path.length = pub) else false from rfl)
  generalize verB size pub h dg idx l path = V at *
  have HOK : Hid (verOk size h idx l path dg.length ↔ (mcanB size h = true ∧ 0 ≤ idx ∧ idx < 2 ^ h.toNat ∧ (path.length : Int) = h ∧ (¬ ∃ p ∈ path, ¬ (p.length : Int) = size) ∧ recE size l idx dg.length = 0)) := ⟨fun h => h, fun h => h⟩
  clear hp hd hg g1 g2 ht
  go_enter Tryz.func33, Tryz.ntmps33
  go_wp2_with fail
  generalize ((w.alloc (.cells #[.int .i64 size] 3)).alloc (.cells #[.int .i64 idx, .slice pa l.length pc, .slice qa path.length qc] 27)) = w2 at *
  have HM := Lib.hid (mcan_any size h w2)
  have q1 : w2.cell? ⟨w.heap.size, 0, none⟩ = some (.int .i64 size) := k1.cell 0
  obtain ⟨z0, z1, z2⟩ := rec3 k2
  by_cases hc1 : mcanB size h = true
  rotate_left
  · rw [Bool.not_eq_true] at hc1
    rw [hc1] at HM
    have HNO := Lib.hid (show ¬ verOk size h idx l path dg.length from fun q => by rw [(HOK.out.1 q).1] at hc1; cases hc1)
    refine HM.out.mono ?_
    rintro e w3 ⟨rfl, rfl⟩
    go_wp2
    go_ret
    exact ⟨ret_bool (by rw [HV.out, if_neg HNO.out]), hb2⟩
  rw [hc1] at HM
  obtain ⟨hs0, hs1, hh0, hh1⟩ : 1 ≤ size ∧ size ≤ 32 ∧ 0 ≤ h ∧ h ≤ 8 := by unfold mcanB at hc1; exact of_decide_eq_true hc1
  obtain ⟨hn, rfl⟩ : ∃ hn : Nat, h = hn := ⟨h.toNat, by omega⟩
  rw [Int.toNat_natCast] at HOK
  have HC1 := Lib.hid hc1
  clear hc1
  by_cases hc2 : 0 ≤ idx
  rotate_left
  · have hx : idx < 0 := by omega
    have HNO := Lib.hid (show ¬ verOk size hn idx l path dg.length from fun q => hc2 (HOK.out.1 q).2.1)
    refine HM.out.mono ?_
    rintro e w3 ⟨rfl, rfl⟩
    go_wp2
    go_ret
    exact ⟨ret_bool (by rw [HV.out, if_neg HNO.out]), hb2⟩
  obtain ⟨ix, rfl⟩ : ∃ ix : Nat, idx = ix := ⟨idx.toNat, by omega⟩
  rw [Int.toNat_natCast] at HV
  have hpos : (0 : Int) < 2 ^ hn := Int.pow_pos (by decide)
  by_cases hc3 : (ix : Int) < 2 ^ hn
  rotate_left
  · have hx : 0 < (ix : Int) / 2 ^ hn := by
      have : 1 ≤ (ix : Int) / 2 ^ hn := (Int.le_ediv_iff_mul_le hpos).2 (by omega)
      omega
    have HNO := Lib.hid (show ¬ verOk size hn ix l path dg.length from fun q => hc3 (HOK.out.1 q).2.2.1)
    refine HM.out.mono ?_
    rintro e w3 ⟨rfl, rfl⟩
    go_wp2
    go_ret
    exact ⟨ret_bool (by rw [HV.out, if_neg HNO.out]), hb2⟩
  have hx : (ix : Int) / 2 ^ hn ≤ 0 := by rw [Int.ediv_eq_zero_of_lt (by omega) hc3]; omega
  have HC3 := Lib.hid hc3
  clear hc3 hpos
  by_cases hc4 : (path.length : Int) = hn
  rotate_left
  · have hx4 : ((path.length : Int) != (hn : Int)) = true := by simpa using hc4
    have HNO := Lib.hid (show ¬ verOk size hn ix l path dg.length from fun q => hc4 (HOK.out.1 q).2.2.2.1)
    refine HM.out.mono ?_
    rintro e w3 ⟨rfl, rfl⟩
    go_wp2
    go_ret
    exact ⟨ret_bool (by rw [HV.out, if_neg HNO.out]), hb2⟩
  have hx4 : ((path.length : Int) != (hn : Int)) = false := by simpa using hc4
  have HPL := Lib.hid (show path.length ≤ 8 by omega)
  obtain rfl : hn = path.length := by omega
  have HX := Lib.hid (mvContains_any (.slice qa path.length qc) path w.heap.size size w2 k1 HG2.out)
  by_cases hc5 : ∃ p ∈ path, ¬ (p.length : Int) = size
  · rw [decide_eq_true hc5] at HX
    have HNO := Lib.hid (show ¬ verOk size path.length ix l path dg.length from fun q => (HOK.out.1 q).2.2.2.2.1 hc5)
    refine HM.out.mono ?_
    rintro e w3 ⟨rfl, rfl⟩
    go_wp2_with fail
    refine HX.out.mono ?_
    rintro e w4 ⟨rfl, rfl⟩
    go_wp2
    go_ret
    exact ⟨ret_bool (by rw [HV.out, if_neg HNO.out]), hb2⟩
  rw [decide_eq_false hc5] at HX
  have HC5 := Lib.hid hc5
  clear hc5 hc4
  have HR := Lib.hid (recover_any size (.slice pa l.length pc) l ix (.slice dva dvn dvc) dg w2 hz0 hz1 hx0 hx1 hBl HG1.out hBd HD.out HT.out)
  refine HM.out.mono ?_
  rintro e w3 ⟨rfl, rfl⟩
  go_wp2_with fail
  refine HX.out.mono ?_
  rintro e w4 ⟨rfl, rfl⟩
  go_wp2_with fail
  refine HR.out.mono ?_
  rintro e w5 ⟨x5, rfl, hx5, hb5⟩
  have k1 := k1.belowS hb5
  have k2 := k2.belowS hb5
  have q1 : w5.cell? ⟨w.heap.size, 0, none⟩ = some (.int .i64 size) := k1.cell 0
  obtain ⟨z0, z1, z2⟩ := rec3 k2
  have hbr := hb2.trans (hb5.mono hb2.size)
  have HP5 := Lib.hid (HP.out.below hb5 (Nat.le_refl _))
  have HG5 := Lib.hid (HG2.out.below hb5 (Nat.le_refl _))
  have HT5 := Lib.hid (HT.out.below hb5)
  have HXB := Lib.hid (recL_isB size l ix dg)
  rcases recE_or size l ix dg.length with hc6 | hc6
  rotate_left
  · rw [hc6]
    have HNO := Lib.hid (show ¬ verOk size path.length ix l path dg.length from fun q => by rw [(HOK.out.1 q).2.2.2.2.2] at hc6; cases hc6)
    clear hx5 HR HX
    go_wp2
    go_ret
    exact ⟨ret_bool (by rw [HV.out, if_neg HNO.out]), hbr⟩
  · have HYES := Lib.hid (show verOk size path.length ix l path dg.length from HOK.out.2 ⟨HC1.out, by omega, HC3.out, by first | rfl | trivial, HC5.out, hc6⟩)
    rw [hc6]
    have HVY := Lib.hid (show V = decide (climbI size ix (recL size l ix dg) path path.length = pub) by rw [HV.out, if_pos HYES.out])
    clear HV
    have HCS := Lib.hid (fun k => show climbI size ix (recL size l ix dg) path (k + 1) = (if ix / 2 ^ k % 2 = 1 then pairT size ((k : Int) + 1) ((ix / 2 ^ k / 2 : Nat) : Int) (path.getD k []) (climbI size ix (recL size l ix dg) path k) else pairT size ((k : Int) + 1) ((ix / 2 ^ k / 2 : Nat) : Int) (climbI size ix (recL size l ix dg) path k) (path.getD k [])) from rfl)
    have HC0 := Lib.hid (show climbI size ix (recL size l ix dg) path 0 = recL size l ix dg from rfl)
    have HCB := Lib.hid (climbI_isB size ix (recL size l ix dg) path HXB.out)
    rw [← HC0.out] at hx5
    generalize climbI size ix (recL size l ix dg) path = CL at *
    clear HR HX hx hx4 hc6 HOK HC1 HC3 HXB HM HC0
    go_wp2
    go_loopw [12, 14, 66] (fun x pl i wr => ∃ (k : Nat) (xv : Value), xv = x ∧ k ≤ path.length ∧ pl = .int .i64 ((ix / 2 ^ k : Nat) : Int) ∧ i = .int .i64 k ∧ Sl wr xv ((CL k).map (Value.int .u8)) ∧ Below w5.heap.size w5 wr) (fun _ _ i _ => path.length - (intOf i).toNat)
    case atStart => exact ⟨0, _, rfl, by omega, by simp, rfl, hx5, Below.refl _ _⟩
    case round =>
      obtain ⟨k, xv, rfl, hk, rfl, rfl, hxv, hbw⟩ := hrel
      obtain ⟨xa, xn, xc, rfl⟩ := hxv.val
      have k1 := k1.belowS hbw
      have q1 : wr.cell? ⟨w.heap.size, 0, none⟩ = some (.int .i64 size) := k1.cell 0
      by_cases hlt : k < path.length
      · have hkI : (k : Int) < (path.length : Int) := by omega
        obtain ⟨yb, yo, rfl, hyb, yu, hyc, hyu⟩ := (HG5.out.below hbw (Nat.le_refl _)).at hlt
        have HIN := Lib.hid (show IsB (path.getD k []) from hBq _ (getD_mem hlt))
        have HST := Lib.hid (HCS.out k)
        generalize path.getD k [] = Y at *
        obtain ⟨ya, yn, yc, rfl⟩ := hyu.val
        generalize hP : ix / 2 ^ k = P at *
        have HPN := Lib.hid (show ix / 2 ^ (k + 1) = P / 2 by rw [← hP, Nat.pow_succ, Nat.div_div_eq_div_mul])
        have hPb : (P : Int) ≤ ix := by have := Nat.div_le_self ix (2 ^ k); omega
        have hqd : ((P : Int)).tdiv 2 = ((P / 2 : Nat) : Int) := by rw [Int.tdiv_eq_ediv_of_nonneg (by omega)]; omega
        have hkn := HPL.out
        clear hP
        by_cases hodd : P % 2 = 1
        · have hbit : (bits BinOp.and IntKind.i64 (P : Int) 1 == 1) = true := by rw [and_one P (by omega), hodd]; rfl
          rw [if_pos hodd] at HST
          clear hodd
          go_wp2_with fail
          refine (mpair_any size ((k : Int) + 1) ((P / 2 : Nat) : Int) (.slice ya yn yc) (.slice xa xn xc) Y (CL k) wr (by omega) (by omega) (by omega) (by omega) HIN.out (HCB.out k) hyu hxv (HT5.out.below hbw)).mono ?_
          rintro e w6 ⟨x6, rfl, hx6, hb6⟩
          go_wp2
          go_roundw
          case rel => exact ⟨k + 1, x6, rfl, by omega, by rw [HPN.out]; congr 1, by go_num, by rw [HST.out]; exact hx6, hbw.trans (hb6.mono hbw.size)⟩
          case measure => simp [intOf]; omega
        · have hbit : (bits BinOp.and IntKind.i64 (P : Int) 1 == 1) = false := by rw [and_one P (by omega), show P % 2 = 0 by omega]; rfl
          rw [if_neg hodd] at HST
          clear hodd
          go_wp2_with fail
          refine (mpair_any size ((k : Int) + 1) ((P / 2 : Nat) : Int) (.slice xa xn xc) (.slice ya yn yc) (CL k) Y wr (by omega) (by omega) (by omega) (by omega) (HCB.out k) HIN.out hxv hyu (HT5.out.below hbw)).mono ?_
          rintro e w6 ⟨x6, rfl, hx6, hb6⟩
          go_wp2
          go_roundw
          case rel => exact ⟨k + 1, x6, rfl, by omega, by rw [HPN.out]; congr 1, by go_num, by rw [HST.out]; exact hx6, hbw.trans (hb6.mono hbw.size)⟩
          case measure => simp [intOf]; omega
      · obtain rfl : k = path.length := by omega
        have hkI : ¬ (path.length : Int) < (path.length : Int) := by omega
        have HE := Lib.hid (bytesEq_any (.slice xa xn xc) (.slice pva pvn pvc) (CL path.length) pub wr hxv (HP5.out.below hbw (Nat.le_refl _)) (HCB.out _) hBp)
        go_wp2_with fail
        refine HE.out.mono ?_
        rintro e w8 ⟨rfl, rfl⟩
        go_wp2
        go_ret
        exact ⟨ret_bool (by rw [HVY.out]), hbr.trans (hbw.mono hbr.size)⟩

end Go.Proofs.YtjhannlioddkkaaGreatDoor

namespace Go.Proofs.YtjhannlioddkkaaGreatDoor
open Go.RowKit
set_option linter.unusedVariables false

set_option maxRecDepth 100000 in
set_option maxHeartbeats 8000000 in
theorem refVerify_stop (size : Int) (vp : Value) (pub : List Int) (h : Int) (vd : Value) (dg : List Int) (sv : Value) (idx : Int) (l path : List (List Int)) (w : World) (hz0 : -9223372036854775808 ≤ size) (hz1 : size ≤ 9223372036854775807) (hx0 : -9223372036854775808 ≤ idx) (hx1 : idx ≤ 9223372036854775807)
    (hBp : IsB pub) (hp : Sl w vp (pub.map (Value.int .u8))) (hBd : IsB dg) (hd : Sl w vd (dg.map (Value.int .u8))) (hBl : ∀ p ∈ l, IsB p) (hBq : ∀ p ∈ path, IsB p) (hg : SigV w sv idx l path) (hno : ¬ (0 ≤ h ∧ h ≤ 8 ∧ 0 ≤ idx ∧ idx < 2 ^ h.toNat ∧ (path.length : Int) = h)) :
    Calls Tryz.prog 35 #[.int .i64 size, vp, .int .i64 h, vd, sv] w fun e w' => e = .returned (.bool (verB size pub h dg idx l path)) ∧ Below w.heap.size w w' := by
  obtain ⟨pa, pc, qa, qc, rfl⟩ := hg.val
  obtain ⟨g1, g2⟩ := hg.parts
  obtain ⟨pva, pvn, pvc, rfl⟩ := hp.val
  obtain ⟨dva, dvn, dvc, rfl⟩ := hd.val
  have hb2 : Below w.heap.size w (w.alloc (.cells #[.int .i64 idx, .slice pa l.length pc, .slice qa path.length qc] 27)) := (Below.refl _ _).alloc (Nat.le_refl _) _
  have k2 := Blk.new w 27 #[.int .i64 idx, .slice pa l.length pc, .slice qa path.length qc]
  have HP := Lib.hid (hp.below hb2 (Nat.le_refl _))
  have HD := Lib.hid (hd.below hb2 (Nat.le_refl _))
  have HG1 := Lib.hid (g1.below hb2 (Nat.le_refl _))
  have HG2 := Lib.hid (g2.below hb2 (Nat.le_refl _))
  have HV := Lib.hid (show verB size pub h dg idx l path = if verOk size h idx l path dg.length then decide (climbI size idx.toNat (recL size l idx dg) path path.length = pub) else false from rfl)
  generalize verB size pub h dg idx l path = V at *
  have HOK : Hid (verOk size h idx l path dg.length ↔ (mcanB size h = true ∧ 0 ≤ idx ∧ idx < 2 ^ h.toNat ∧ (path.length : Int) = h ∧ (¬ ∃ p ∈ path, ¬ (p.length : Int) = size) ∧ recE size l idx dg.length = 0)) := ⟨fun h => h, fun h => h⟩
  clear hp hd hg g1 g2
  go_enter Tryz.func35, Tryz.ntmps35
  go_upto_region 1 with (fail)
  generalize (w.alloc (.cells #[.int .i64 idx, .slice pa l.length pc, .slice qa path.length qc] 27)) = w2 at *
  obtain ⟨z0, z1, z2⟩ := rec3 k2
  by_cases hc1 : 0 ≤ h
  rotate_left
  · have hx1 : h < 0 := by omega
    have HNO := Lib.hid (show ¬ verOk size h idx l path dg.length from fun q => by have := (HOK.out.1 q).1; unfold mcanB at this; have := of_decide_eq_true this; omega)
    go_wp2
    go_quiet (fail)
    go_wp2
    go_ret
    exact ⟨ret_bool (by rw [HV.out, if_neg HNO.out]), below_drewN0 hb2 _⟩
  by_cases hc2 : h ≤ 8
  rotate_left
  · have hx1 : 8 < h := by omega
    have HNO := Lib.hid (show ¬ verOk size h idx l path dg.length from fun q => by have := (HOK.out.1 q).1; unfold mcanB at this; have := of_decide_eq_true this; omega)
    go_wp2
    go_quiet (fail)
    go_wp2
    go_ret
    exact ⟨ret_bool (by rw [HV.out, if_neg HNO.out]), below_drewN0 hb2 _⟩
  by_cases hc3 : 0 ≤ idx
  rotate_left
  · have hx3 : idx < 0 := by omega
    have HNO := Lib.hid (show ¬ verOk size h idx l path dg.length from fun q => hc3 (HOK.out.1 q).2.1)
    go_wp2
    go_quiet (fail)
    go_wp2
    go_ret
    exact ⟨ret_bool (by rw [HV.out, if_neg HNO.out]), below_drewN0 hb2 _⟩
  obtain ⟨hn, rfl⟩ : ∃ hn : Nat, h = hn := ⟨h.toNat, by omega⟩
  rw [Int.toNat_natCast] at HOK
  obtain ⟨ix, rfl⟩ : ∃ ix : Nat, idx = ix := ⟨idx.toNat, by omega⟩
  rw [Int.toNat_natCast] at HV
  obtain ⟨H, hH⟩ : ∃ H : Nat, H = 2 ^ hn := ⟨_, rfl⟩
  have hH1 : 1 ≤ H ∧ H ≤ 256 := by rw [hH]; exact ⟨Nat.one_le_two_pow, Nat.pow_le_pow_right (by omega) (show hn ≤ 8 by omega)⟩
  have hWH : ((2 : Int) ^ hn) = (H : Int) := by rw [hH]; simp
  have hW : wrap64 ((2 : Int) ^ hn) = (H : Int) := by rw [hWH]; unfold wrap64; omega
  have hW2 : IntKind.i64.wrap ((2 : Int) ^ hn) = (H : Int) := by rw [hWH, IntKind.wrap_i64]; omega
  have HWH := Lib.hid hWH
  clear hH hWH
  have hc3' : ¬ (ix : Int) < 0 := by omega
  by_cases hc4 : ix < H
  rotate_left
  · have hx4 : (H : Int) ≤ (ix : Int) := by omega
    have HNO := Lib.hid (show ¬ verOk size hn ix l path dg.length from fun q => by have := (HOK.out.1 q).2.2.1; rw [HWH.out] at this; omega)
    go_wp2
    go_quiet (fail)
    go_wp2
    go_ret
    exact ⟨ret_bool (by rw [HV.out, if_neg HNO.out]), below_drewN0 hb2 _⟩
  have hx4 : ¬ (H : Int) ≤ (ix : Int) := by omega
  by_cases hc5 : (path.length : Int) = hn
  rotate_left
  · have hx5 : ((path.length : Int) != (hn : Int)) = true := by simpa using hc5
    have HNO := Lib.hid (show ¬ verOk size hn ix l path dg.length from fun q => hc5 (HOK.out.1 q).2.2.2.1)
    go_wp2
    go_quiet (fail)
    go_wp2
    go_ret
    exact ⟨ret_bool (by rw [HV.out, if_neg HNO.out]), below_drewN0 hb2 _⟩
  exact absurd ⟨by omega, by omega, by omega, by rw [Int.toNat_natCast, HWH.out]; omega, hc5⟩ hno

end Go.Proofs.YtjhannlioddkkaaGreatDoor
