/- The walks of Sign, the program's and the reference's. -/
import Derived.Test.YtililoojjfcfgaaDoorChainR
import Derived.Test.YtililoojjfcfgaaDoorWotsK
import Derived.Test.YtililoojjfcfgaaDoorOwnT
import Derived.Test.YtililoojjfcfgaaDoorWotsP
import Derived.Test.YtililoojjfcfgaaDoorRefDigits
namespace Go.Proofs.YtililoojjfcfgaaDoor
open Go.RowKit
set_option linter.unusedVariables false

/-- The first k chains' values of a signature. -/
def sgU (size : Int) (seed : List Int) (idx : Int) (dd : List Int) (k : Nat) : List (List Int) := (List.range k).map fun (i : Nat) => chI size idx i 0 (secI size seed idx i) (dd.getD i 0).toNat
theorem sgU_succ (size : Int) (seed : List Int) (idx : Int) (dd : List Int) (k : Nat) : sgU size seed idx dd (k + 1) = sgU size seed idx dd k ++ [chI size idx k 0 (secI size seed idx k) (dd.getD k 0).toNat] := by
  unfold sgU; rw [List.range_succ, List.map_append]; rfl
theorem sgU_len (size : Int) (seed : List Int) (idx : Int) (dd : List Int) (k : Nat) : (sgU size seed idx dd k).length = k := by simp [sgU]
def signE (size : Int) (n : Nat) (idx : Int) (m : Nat) : Int := if canB size n idx = true ∧ (m : Int) = size then 0 else 1
def signL (size : Int) (seed : List Int) (idx : Int) (dg : List Int) : List (List Int) := if canB size seed.length idx = true ∧ (dg.length : Int) = size then sgU size seed idx (digitsOf dg) (4 * dg.length + 5) else []


theorem chain0_any (size : Int) (v : Value) (bs : List Int) (idx i : Int) (te : Nat) (w : World) (hx0 : -9223372036854775808 ≤ idx) (hx1 : idx ≤ 9223372036854775807) (hi0 : -9223372036854775808 ≤ i) (hi1 : i ≤ 9223372036854775807) (h2 : te ≤ 3) (hn : bs.length ≤ 140737488351232) (hB : IsB bs) (hs : Sl w v (bs.map (Value.int .u8))) (ht : Tabs w) :
    Calls Tryd.prog 122 #[.int .i64 size, v, .int .i64 idx, .int .i64 i, .int .i64 0, .int .i64 te] w fun e w' => ∃ x, e = .returned x ∧ Sl w' x ((chI size idx i 0 bs te).map (Value.int .u8)) ∧ Below w.heap.size w w' := by
  have h := chain_any size v bs idx i 0 te w hx0 hx1 hi0 hi1 (by omega) hn hB hs ht
  rw [show max (0 : Int) 0 = 0 by omega, show (min (te : Int) 3 - 0).toNat = te by omega] at h
  exact h

theorem chain3_any (size : Int) (v : Value) (bs : List Int) (idx i : Int) (fr : Nat) (w : World) (hx0 : -9223372036854775808 ≤ idx) (hx1 : idx ≤ 9223372036854775807) (hi0 : -9223372036854775808 ≤ i) (hi1 : i ≤ 9223372036854775807) (h2 : fr ≤ 3) (hn : bs.length ≤ 140737488351232) (hB : IsB bs) (hs : Sl w v (bs.map (Value.int .u8))) (ht : Tabs w) :
    Calls Tryd.prog 122 #[.int .i64 size, v, .int .i64 idx, .int .i64 i, .int .i64 fr, .int .i64 3] w fun e w' => ∃ x, e = .returned x ∧ Sl w' x ((chI size idx i fr bs (3 - fr)).map (Value.int .u8)) ∧ Below w.heap.size w w' := by
  have h := chain_any size v bs idx i fr 3 w hx0 hx1 hi0 hi1 (by omega) hn hB hs ht
  rw [show max (fr : Int) 0 = fr by omega, show (min (3 : Int) 3 - fr).toNat = 3 - fr by omega] at h
  exact h

theorem chain03_any (size : Int) (v : Value) (bs : List Int) (idx i : Int) (w : World) (hx0 : -9223372036854775808 ≤ idx) (hx1 : idx ≤ 9223372036854775807) (hi0 : -9223372036854775808 ≤ i) (hi1 : i ≤ 9223372036854775807) (hn : bs.length ≤ 140737488351232) (hB : IsB bs) (hs : Sl w v (bs.map (Value.int .u8))) (ht : Tabs w) :
    Calls Tryd.prog 122 #[.int .i64 size, v, .int .i64 idx, .int .i64 i, .int .i64 0, .int .i64 3] w fun e w' => ∃ x, e = .returned x ∧ Sl w' x ((chI size idx i 0 bs 3).map (Value.int .u8)) ∧ Below w.heap.size w w' := by
  have h := chain_any size v bs idx i 0 3 w hx0 hx1 hi0 hi1 (by omega) hn hB hs ht
  rw [show max (0 : Int) 0 = 0 by omega, show (min (3 : Int) 3 - 0).toNat = 3 by omega] at h
  exact h


theorem refChain0_any (size : Int) (v : Value) (bs : List Int) (idx i : Int) (te : Nat) (w : World) (hx0 : -9223372036854775808 ≤ idx) (hx1 : idx ≤ 9223372036854775807) (hi0 : -9223372036854775808 ≤ i) (hi1 : i ≤ 9223372036854775807) (h2 : te ≤ 3) (hn : bs.length ≤ 140737488351232) (hB : IsB bs) (hs : Sl w v (bs.map (Value.int .u8))) :
    Calls Tryd.prog 114 #[.int .i64 size, v, .int .i64 idx, .int .i64 i, .int .i64 0, .int .i64 te] w fun e w' => ∃ x, e = .returned x ∧ Sl w' x ((chI size idx i 0 bs te).map (Value.int .u8)) ∧ Below w.heap.size w w' := by
  have h := refChain_any size v bs idx i 0 te w hx0 hx1 hi0 hi1 (by omega) hn hB hs
  rw [show max (0 : Int) 0 = 0 by omega, show (min (te : Int) 3 - 0).toNat = te by omega] at h
  exact h

theorem refChain3_any (size : Int) (v : Value) (bs : List Int) (idx i : Int) (fr : Nat) (w : World) (hx0 : -9223372036854775808 ≤ idx) (hx1 : idx ≤ 9223372036854775807) (hi0 : -9223372036854775808 ≤ i) (hi1 : i ≤ 9223372036854775807) (h2 : fr ≤ 3) (hn : bs.length ≤ 140737488351232) (hB : IsB bs) (hs : Sl w v (bs.map (Value.int .u8))) :
    Calls Tryd.prog 114 #[.int .i64 size, v, .int .i64 idx, .int .i64 i, .int .i64 fr, .int .i64 3] w fun e w' => ∃ x, e = .returned x ∧ Sl w' x ((chI size idx i fr bs (3 - fr)).map (Value.int .u8)) ∧ Below w.heap.size w w' := by
  have h := refChain_any size v bs idx i fr 3 w hx0 hx1 hi0 hi1 (by omega) hn hB hs
  rw [show max (fr : Int) 0 = fr by omega, show (min (3 : Int) 3 - fr).toNat = 3 - fr by omega] at h
  exact h

theorem refChain03_any (size : Int) (v : Value) (bs : List Int) (idx i : Int) (w : World) (hx0 : -9223372036854775808 ≤ idx) (hx1 : idx ≤ 9223372036854775807) (hi0 : -9223372036854775808 ≤ i) (hi1 : i ≤ 9223372036854775807) (hn : bs.length ≤ 140737488351232) (hB : IsB bs) (hs : Sl w v (bs.map (Value.int .u8))) :
    Calls Tryd.prog 114 #[.int .i64 size, v, .int .i64 idx, .int .i64 i, .int .i64 0, .int .i64 3] w fun e w' => ∃ x, e = .returned x ∧ Sl w' x ((chI size idx i 0 bs 3).map (Value.int .u8)) ∧ Below w.heap.size w w' := by
  have h := refChain_any size v bs idx i 0 3 w hx0 hx1 hi0 hi1 (by omega) hn hB hs
  rw [show max (0 : Int) 0 = 0 by omega, show (min (3 : Int) 3 - 0).toNat = 3 by omega] at h
  exact h

set_option maxRecDepth 100000 in
set_option maxHeartbeats 1000000 in
theorem sign_any (size : Int) (v : Value) (seed : List Int) (idx : Int) (vd : Value) (dg : List Int) (w : World) (hx0 : -9223372036854775808 ≤ idx) (hx1 : idx ≤ 9223372036854775807)
    (hB : IsB seed) (hs : Sl w v (seed.map (Value.int .u8))) (hBd : IsB dg) (hsd : Sl w vd (dg.map (Value.int .u8))) (ht : Tabs w) :
    Calls Tryd.prog 82 #[.int .i64 size, v, .int .i64 idx, vd] w fun e w' => ∃ x, e = .returned (.tuple #[x, .int .i64 (signE size seed.length idx dg.length)]) ∧ Sls w' x (signL size seed idx dg) ∧ Below w.heap.size w w' := by
  have HC := Lib.hid (can_any size v seed idx w hs)
  obtain ⟨va, vn, vc, rfl⟩ := hs.val
  obtain ⟨da, dc, rfl, hdc, _⟩ := hsd.shape
  rw [List.length_map] at *
  have HE := Lib.hid (show signE size seed.length idx dg.length = if canB size seed.length idx = true ∧ (dg.length : Int) = size then 0 else 1 from rfl)
  have HL := Lib.hid (show signL size seed idx dg = if canB size seed.length idx = true ∧ (dg.length : Int) = size then sgU size seed idx (digitsOf dg) (4 * dg.length + 5) else [] from rfl)
  by_cases hcb : canB size seed.length idx = true
  · have hcI : 1 ≤ size ∧ size ≤ 32 := by unfold canB at hcb; have := of_decide_eq_true hcb; omega
    rw [hcb] at HC HE HL
    clear hcb
    by_cases hln : (dg.length : Int) = size
    · rw [if_pos ⟨rfl, hln⟩] at HE HL
      subst hln
      rw [HE.out, HL.out]
      have hl32 : dg.length ≤ 32 := by omega
      have HDG := Lib.hid (digits_short dg (.slice da dg.length dc) hBd hl32 w hsd)
      have HDL := Lib.hid (digits_len dg hl32)
      have HDM := Lib.hid (fun j => digits_mem (a := dg) hl32 j)
      generalize digitsOf dg = DD at *
      go_enter Tryd.func82, Tryd.ntmps82
      go_wp2_with fail
      refine HC.out.mono ?_
      rintro e w1 ⟨rfl, rfl⟩
      go_wp2_with fail
      refine HDG.out.mono ?_
      rintro e w1 ⟨v1, rfl, hd1, hb1⟩
      obtain ⟨xa, xc, rfl, _, _⟩ := hd1.shape
      rw [List.length_map, HDL.out]
      have hs := hs.below hb1 (Nat.le_refl _)
      have ht := ht.below hb1
      have hb1s := hb1.size
      clear HDG hsd HC
      go_wp2
      go_loopw [10, 27] (fun l i wr => ∃ (k : Nat) (lv : Value), lv = l ∧ k ≤ 4 * dg.length + 5 ∧ i = .int .i64 k ∧ OSls wr w1.heap.size lv (sgU dg.length seed idx DD k) ∧ Below w1.heap.size w1 wr) (fun _ i _ => 4 * dg.length + 5 - (intOf i).toNat)
      case atStart => exact ⟨0, _, rfl, by omega, rfl, OSls.nil _ _, Below.refl _ _⟩
      case round =>
        obtain ⟨k, l, rfl, hk, rfl, hO, hbr1⟩ := hrel
        by_cases hlt : k < 4 * dg.length + 5
        · obtain ⟨xb, xo, rfl, hxb, hxc⟩ := hd1.ints (k := k) (by rw [HDL.out]; exact hlt)
          have hxk : wr.cell? ⟨xb, xo + k, none⟩ = some (.int .i64 (DD.getD k 0)) := by rw [hbr1.cell (p := ⟨xb, xo + k, none⟩) hxb]; exact hxc k (by rw [HDL.out]; exact hlt)
          have hdm := HDM.out k
          have HSN := Lib.hid (sgU_succ (dg.length : Int) seed idx DD k)
          generalize DD.getD k 0 = D at *
          obtain ⟨d, rfl⟩ : ∃ d : Nat, D = d := ⟨D.toNat, by omega⟩
          rw [Int.toNat_natCast] at HSN
          have hs := hs.below hbr1 (Nat.le_refl _)
          have ht := ht.below hbr1
          have hkI : (k : Int) < 4 * (dg.length : Int) + 5 := by omega
          clear hxc
          go_wp2_with fail
          refine (secret_any dg.length (.slice va vn vc) seed idx k wr hx0 hx1 (by omega) (by omega) hB hs ht).mono ?_
          rintro e w2 ⟨x1, rfl, hx1, hb2⟩
          have ht := ht.below hb2
          have hO := hO.below hb2
          have hbr1 := hbr1.trans (hb2.mono hbr1.size)
          clear hb2
          go_wp2_with fail
          refine (chain0_any dg.length x1 _ idx k d w2 (by assumption) (by assumption) (by omega) (by omega) (by omega) (by have := secI_len dg.length seed idx k; omega) (secI_isB _ _ _ _) hx1 ht).mono ?_
          rintro e w3 ⟨x2, rfl, hx2, hb3⟩
          have hO := hO.below hb3
          have hbr1 := hbr1.trans (hb3.mono hbr1.size)
          obtain ⟨a2, l2, c2, rfl⟩ := hx2.val
          have hbA : Below w3.heap.size w3 (w3.alloc (.cells #[.slice a2 l2 c2] 22)) := (Below.refl _ _).alloc (Nat.le_refl _) _
          have HLN := Lib.hid (show (sgU (dg.length : Int) seed idx DD k).length + 1 ≤ 5000000000000 by rw [sgU_len]; omega)
          have hO := hO.below hbA
          have hx2 := hx2.below hbA (Nat.le_refl _)
          have hbr1 := hbr1.trans (hbA.mono hbr1.size)
          have hc2 := (Blk.new w3 22 #[.slice a2 l2 c2]).cell 0
          clear hb3 hxk
          go_wp2_with (at_builtin; refine wpList_append_text rfl _ _ rfl w1.heap.size _ _ rfl hO w3.heap.size 1 rfl (.slice a2 l2 c2) hc2 _ hx2 HLN.out hbr1.size ?_)
          intro l5 w5 hO5 hb5 hg5
          have hbr1 := hbr1.trans hb5
          clear hg5 hb5 hO hx2 hc2 hbA
          go_wp2
          go_roundw
          case rel => exact ⟨k + 1, l5, rfl, by omega, by go_num, by rw [HSN.out]; exact hO5, hbr1⟩
          case measure => simp [intOf]; omega
        · obtain rfl : k = 4 * dg.length + 5 := by omega
          have hkI : ¬ (4 * (dg.length : Int) + 5 : Int) < 4 * (dg.length : Int) + 5 := by omega
          go_wp2
          go_ret2
          exact ⟨_, rfl, hO.sls, hb1.trans (hbr1.mono hb1s)⟩
    · rw [if_neg (fun h => hln h.2)] at HE HL
      rw [HE.out, HL.out]
      go_enter Tryd.func82, Tryd.ntmps82
      go_wp2_with fail
      refine HC.out.mono ?_
      rintro e w1 ⟨rfl, rfl⟩
      go_wp2
      go_ret2
      exact ⟨_, rfl, ⟨[], Sl.nil _, rfl, fun i u bs hu _ => by simp at hu⟩, Below.refl _ _⟩
  · rw [if_neg (fun h => hcb h.1)] at HE HL
    rw [Bool.not_eq_true] at hcb
    rw [hcb] at HC
    rw [HE.out, HL.out]
    clear hcb
    go_enter Tryd.func82, Tryd.ntmps82
    go_wp2_with fail
    refine HC.out.mono ?_
    rintro e w1 ⟨rfl, rfl⟩
    go_wp2
    go_ret2
    exact ⟨_, rfl, ⟨[], Sl.nil _, rfl, fun i u bs hu _ => by simp at hu⟩, Below.refl _ _⟩

set_option maxRecDepth 100000 in
set_option maxHeartbeats 1000000 in
theorem refSign_any (size : Int) (v : Value) (seed : List Int) (idx : Int) (vd : Value) (dg : List Int) (w : World) (hx0 : -9223372036854775808 ≤ idx) (hx1 : idx ≤ 9223372036854775807)
    (hB : IsB seed) (hs : Sl w v (seed.map (Value.int .u8))) (hBd : IsB dg) (hsd : Sl w vd (dg.map (Value.int .u8))) :
    Calls Tryd.prog 91 #[.int .i64 size, v, .int .i64 idx, vd] w fun e w' => ∃ x, e = .returned (.tuple #[x, .int .i64 (signE size seed.length idx dg.length)]) ∧ Sls w' x (signL size seed idx dg) ∧ Below w.heap.size w w' := by
  have HC := Lib.hid (refCan_any size v seed idx w hs)
  obtain ⟨va, vn, vc, rfl⟩ := hs.val
  obtain ⟨da, dc, rfl, hdc, _⟩ := hsd.shape
  rw [List.length_map] at *
  have HE := Lib.hid (show signE size seed.length idx dg.length = if canB size seed.length idx = true ∧ (dg.length : Int) = size then 0 else 1 from rfl)
  have HL := Lib.hid (show signL size seed idx dg = if canB size seed.length idx = true ∧ (dg.length : Int) = size then sgU size seed idx (digitsOf dg) (4 * dg.length + 5) else [] from rfl)
  by_cases hcb : canB size seed.length idx = true
  · have hcI : 1 ≤ size ∧ size ≤ 32 := by unfold canB at hcb; have := of_decide_eq_true hcb; omega
    rw [hcb] at HC HE HL
    clear hcb
    by_cases hln : (dg.length : Int) = size
    · rw [if_pos ⟨rfl, hln⟩] at HE HL
      subst hln
      rw [HE.out, HL.out]
      have hl32 : dg.length ≤ 32 := by omega
      have HDG := Lib.hid (refDigits_short dg (.slice da dg.length dc) hBd hl32 w hsd)
      have HDL := Lib.hid (digits_len dg hl32)
      have HDM := Lib.hid (fun j => digits_mem (a := dg) hl32 j)
      generalize digitsOf dg = DD at *
      go_enter Tryd.func91, Tryd.ntmps91
      go_wp2_with fail
      refine HC.out.mono ?_
      rintro e w1 ⟨rfl, rfl⟩
      go_wp2_with fail
      refine HDG.out.mono ?_
      rintro e w1 ⟨v1, rfl, hd1, hb1⟩
      obtain ⟨xa, xc, rfl, _, _⟩ := hd1.shape
      rw [List.length_map, HDL.out]
      have hs := hs.below hb1 (Nat.le_refl _)
      
      have hb1s := hb1.size
      clear HDG hsd HC
      go_wp2
      go_loopw [10, 27] (fun l i wr => ∃ (k : Nat) (lv : Value), lv = l ∧ k ≤ 4 * dg.length + 5 ∧ i = .int .i64 k ∧ OSls wr w1.heap.size lv (sgU dg.length seed idx DD k) ∧ Below w1.heap.size w1 wr) (fun _ i _ => 4 * dg.length + 5 - (intOf i).toNat)
      case atStart => exact ⟨0, _, rfl, by omega, rfl, OSls.nil _ _, Below.refl _ _⟩
      case round =>
        obtain ⟨k, l, rfl, hk, rfl, hO, hbr1⟩ := hrel
        by_cases hlt : k < 4 * dg.length + 5
        · obtain ⟨xb, xo, rfl, hxb, hxc⟩ := hd1.ints (k := k) (by rw [HDL.out]; exact hlt)
          have hxk : wr.cell? ⟨xb, xo + k, none⟩ = some (.int .i64 (DD.getD k 0)) := by rw [hbr1.cell (p := ⟨xb, xo + k, none⟩) hxb]; exact hxc k (by rw [HDL.out]; exact hlt)
          have hdm := HDM.out k
          have HSN := Lib.hid (sgU_succ (dg.length : Int) seed idx DD k)
          generalize DD.getD k 0 = D at *
          obtain ⟨d, rfl⟩ : ∃ d : Nat, D = d := ⟨D.toNat, by omega⟩
          rw [Int.toNat_natCast] at HSN
          have hs := hs.below hbr1 (Nat.le_refl _)
          
          have hkI : (k : Int) < 4 * (dg.length : Int) + 5 := by omega
          clear hxc
          go_wp2_with fail
          refine (refSecret_any dg.length (.slice va vn vc) seed idx k wr hx0 hx1 (by omega) (by omega) hB hs).mono ?_
          rintro e w2 ⟨x1, rfl, hx1, hb2⟩
          
          have hO := hO.below hb2
          have hbr1 := hbr1.trans (hb2.mono hbr1.size)
          clear hb2
          go_wp2_with fail
          refine (refChain0_any dg.length x1 _ idx k d w2 (by assumption) (by assumption) (by omega) (by omega) (by omega) (by have := secI_len dg.length seed idx k; omega) (secI_isB _ _ _ _) hx1).mono ?_
          rintro e w3 ⟨x2, rfl, hx2, hb3⟩
          have hO := hO.below hb3
          have hbr1 := hbr1.trans (hb3.mono hbr1.size)
          obtain ⟨a2, l2, c2, rfl⟩ := hx2.val
          have hbA : Below w3.heap.size w3 (w3.alloc (.cells #[.slice a2 l2 c2] 22)) := (Below.refl _ _).alloc (Nat.le_refl _) _
          have HLN := Lib.hid (show (sgU (dg.length : Int) seed idx DD k).length + 1 ≤ 5000000000000 by rw [sgU_len]; omega)
          have hO := hO.below hbA
          have hx2 := hx2.below hbA (Nat.le_refl _)
          have hbr1 := hbr1.trans (hbA.mono hbr1.size)
          have hc2 := (Blk.new w3 22 #[.slice a2 l2 c2]).cell 0
          clear hb3 hxk
          go_wp2_with (at_builtin; refine wpList_append_text rfl _ _ rfl w1.heap.size _ _ rfl hO w3.heap.size 1 rfl (.slice a2 l2 c2) hc2 _ hx2 HLN.out hbr1.size ?_)
          intro l5 w5 hO5 hb5 hg5
          have hbr1 := hbr1.trans hb5
          clear hg5 hb5 hO hx2 hc2 hbA
          go_wp2
          go_roundw
          case rel => exact ⟨k + 1, l5, rfl, by omega, by go_num, by rw [HSN.out]; exact hO5, hbr1⟩
          case measure => simp [intOf]; omega
        · obtain rfl : k = 4 * dg.length + 5 := by omega
          have hkI : ¬ (4 * (dg.length : Int) + 5 : Int) < 4 * (dg.length : Int) + 5 := by omega
          go_wp2
          go_ret2
          exact ⟨_, rfl, hO.sls, hb1.trans (hbr1.mono hb1s)⟩
    · rw [if_neg (fun h => hln h.2)] at HE HL
      rw [HE.out, HL.out]
      go_enter Tryd.func91, Tryd.ntmps91
      go_wp2_with fail
      refine HC.out.mono ?_
      rintro e w1 ⟨rfl, rfl⟩
      go_wp2
      go_ret2
      exact ⟨_, rfl, ⟨[], Sl.nil _, rfl, fun i u bs hu _ => by simp at hu⟩, Below.refl _ _⟩
  · rw [if_neg (fun h => hcb h.1)] at HE HL
    rw [Bool.not_eq_true] at hcb
    rw [hcb] at HC
    rw [HE.out, HL.out]
    clear hcb
    go_enter Tryd.func91, Tryd.ntmps91
    go_wp2_with fail
    refine HC.out.mono ?_
    rintro e w1 ⟨rfl, rfl⟩
    go_wp2
    go_ret2
    exact ⟨_, rfl, ⟨[], Sl.nil _, rfl, fun i u bs hu _ => by simp at hu⟩, Below.refl _ _⟩


end Go.Proofs.YtililoojjfcfgaaDoor
