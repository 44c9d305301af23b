/- math/bits.TrailingZeros, and how many links a record has. Records: within, sized, Can. Records: Can. Records: Encode. -/
import Derived.Test.YtililoojjfcfgaaDoorRecP
import Derived.Test.YtililoojjfcfgaaDoorSlc
import Derived.Laws.Bits64b
import Derived.Lib.TrailingZeros
import Derived.Test.YtililoojjfcfgaaDoorOwnT
import Derived.Deep.RegionHeld3
import Derived.BigQuiet
import Derived.Deep.QuietTactic
import Derived.Deep.RegionWith
import Derived.Test.YtililoojjfcfgaaDoorCodec
namespace Go.Proofs.YtililoojjfcfgaaDoor
open Go.RowKit
set_option linter.unusedVariables false

/-- The library's table, in its variable. -/
def TzTab (w : World) : Prop := ∀ j, j < Lib.deBruijn64tab.length → w.cell? ⟨1, j, none⟩ = some (.int .u8 (Lib.deBruijn64tab.getD j 0))
theorem TzTab.below {w w' : World} (h : TzTab w) (hb : Below w.heap.size w w') : TzTab w' := fun j hj => by
  have hc := h j hj
  have hlt : 1 < w.heap.size := by
    rcases Nat.lt_or_ge 1 w.heap.size with hl | hl
    · exact hl
    · simp [World.cell?, Array.getElem?_eq_none hl] at hc
  exact (hb.cell (p := ⟨1, j, none⟩) hlt).trans hc

theorem tz_key (x a : Nat) (hx : x < 18446744073709551616) (hx0 : x ≠ 0) (hlow : x &&& (18446744073709551616 - x) = a) :
    IntKind.u64.wrap (bits BinOp.and IntKind.u64 (x : Int) (IntKind.u64.wrap (-(x : Int))) * 285870213051353865) / 288230376151711744 = ((a * 285870213051353865 % 18446744073709551616 / 288230376151711744 : Nat) : Int) := by
  have e1 : IntKind.u64.wrap (-(x : Int)) = ((18446744073709551616 - x : Nat) : Int) := by rw [IntKind.wrap_u64]; omega
  rw [e1, bits_and_u64_nat x _ hx (by omega), hlow, IntKind.wrap_u64]
  omega

set_option maxHeartbeats 1000000 in
theorem tz_core (x k idx : Nat) (w : World) (hx0 : ((x : Int) == 0) = false)
    (key : IntKind.u64.wrap (bits BinOp.and IntKind.u64 (x : Int) (IntKind.u64.wrap (-(x : Int))) * 285870213051353865) / 288230376151711744 = (idx : Int))
    (hi : idx < 64) (hk : k < 64) (hcell : w.cell? ⟨1, idx, none⟩ = some (.int .u8 k)) :
    Calls Tryd.prog 142 #[.int .u64 x] w fun e w' => e = .returned (.int .i64 k) ∧ w = w' := by
  go_enter Tryd.func142, Tryd.ntmps142
  go_wp2_with (simp only [key])
  go_ret
  exact ⟨rfl, rfl⟩

theorem tz64_any (x : Nat) (hx : x < 18446744073709551616) (hx0 : x ≠ 0) (w : World) (hT : TzTab w) :
    Calls Tryd.prog 142 #[.int .u64 x] w fun e w' => e = .returned (.int .i64 (Lib.ctz 64 x)) ∧ w = w' := by
  obtain ⟨hlow, hk⟩ := Lib.lowest_bit 64 x hx0 hx
  obtain ⟨hi, htab⟩ := Lib.deBruijn64_at _ hk
  have hcell := hT _ hi
  rw [htab] at hcell
  exact tz_core x _ _ w (by simp; omega) (tz_key x _ hx hx0 hlow) hi hk hcell

theorem tz_any (x : Nat) (hx : x < 18446744073709551616) (hx0 : x ≠ 0) (w : World) (hT : TzTab w) :
    Calls Tryd.prog 103 #[.int .u64 x] w fun e w' => e = .returned (.int .i64 (Lib.ctz 64 x)) ∧ w = w' := by
  have H := Lib.hid (tz64_any x hx hx0 w hT)
  have hw : IntKind.u64.wrap (x : Int) = (x : Int) := by rw [IntKind.wrap_u64]; omega
  generalize Lib.ctz 64 x = c at *
  go_enter Tryd.func103, Tryd.ntmps103
  go_wp2_with fail
  refine H.out.mono ?_
  rintro e w1 ⟨rfl, rfl⟩
  go_wp2
  go_ret
  exact ⟨rfl, rfl⟩

theorem links_tab : ∀ n : Fin 256, linksI (n.val : Int) = if n.val = 0 then 0 else Lib.ctz 64 n.val + 1 := by decide +kernel
theorem ctz_small : ∀ n : Fin 256, n.val ≠ 0 → Lib.ctz 64 n.val ≤ 7 := by decide +kernel

theorem links_any (ep : Int) (h0 : 0 ≤ ep) (h1 : ep ≤ 255) (w : World) (hT : TzTab w) :
    Calls Tryd.prog 60 #[.int .i64 ep] w fun e w' => e = .returned (.int .i64 (linksI ep)) ∧ w = w' := by
  obtain ⟨n, rfl⟩ : ∃ n : Nat, ep = n := ⟨ep.toNat, by omega⟩
  have hl := links_tab ⟨n, by omega⟩
  simp only at hl
  by_cases hn : n = 0
  · subst hn
    rw [if_pos rfl] at hl
    have HL := Lib.hid hl
    clear hl
    go_enter Tryd.func60, Tryd.ntmps60
    go_wp2
    go_ret
    exact ⟨ret_int (by rw [HL.out]; rfl), rfl⟩
  · rw [if_neg hn] at hl
    have hc := ctz_small ⟨n, by omega⟩ hn
    simp only at hc
    have HL := Lib.hid hl
    have H := Lib.hid (tz_any n (by omega) hn w hT)
    have hI : ¬ (n : Int) < 1 := by omega
    have hw : IntKind.u64.wrap (n : Int) = (n : Int) := by rw [IntKind.wrap_u64]; omega
    generalize Lib.ctz 64 n = c at *
    clear hl
    go_enter Tryd.func60, Tryd.ntmps60
    go_wp2_with fail
    refine H.out.mono ?_
    rintro e w1 ⟨rfl, rfl⟩
    go_wp2
    go_ret
    exact ⟨ret_int (by rw [HL.out]; simp), rfl⟩

end Go.Proofs.YtililoojjfcfgaaDoor

namespace Go.Proofs.YtililoojjfcfgaaDoor
open Go.RowKit
set_option linter.unusedVariables false

theorem within_any (n h : Int) (w : World) : Calls Tryd.prog 75 #[.int .i64 n, .int .i64 h] w fun e w' => e = .returned (.bool (decide (0 ≤ n ∧ n ≤ h))) ∧ w = w' := by
  by_cases h0 : 0 ≤ n
  · by_cases h1 : n ≤ h
    · have HD := Lib.hid (show decide (0 ≤ n ∧ n ≤ h) = true by simp [h0, h1])
      go_enter Tryd.func75, Tryd.ntmps75
      go_wp2
      go_ret
      exact ⟨ret_bool (by first | (rw [HD.out]; done) | (simp; omega)), rfl⟩
    · have HD := Lib.hid (show decide (0 ≤ n ∧ n ≤ h) = false by simp [h1])
      go_enter Tryd.func75, Tryd.ntmps75
      go_wp2
      go_ret
      exact ⟨ret_bool (by first | (rw [HD.out]; done) | (simp; omega)), rfl⟩
  · have HD := Lib.hid (show decide (0 ≤ n ∧ n ≤ h) = false by simp [h0])
    go_enter Tryd.func75, Tryd.ntmps75
    go_wp2
    go_ret
    exact ⟨ret_bool (by first | (rw [HD.out]; done) | (simp; omega)), rfl⟩

set_option maxHeartbeats 1000000 in
theorem rsized_any (size : Int) (v : Value) (pss : List (List Int)) (w : World) (h : Sls w v pss) :
    Calls Tryd.prog 76 #[.int .i64 size, v] w fun e w' => e = .returned (.bool (decide (∀ p ∈ pss, (p.length : Int) = size))) ∧ w = w' := by
  obtain ⟨a, cap, rfl, hc, hm⟩ := h.shape
  go_enter Tryd.func76, Tryd.ntmps76
  go_wp2
  go_loopw [9] (fun i wr => ∃ k : Nat, k ≤ pss.length ∧ i = .int .i64 k ∧ Hid (∀ j, j < k → ((pss.getD j []).length : Int) = size) ∧ w = wr) (fun i _ => pss.length - (intOf i).toNat)
  case atStart => exact ⟨0, by omega, rfl, fun j hj => absurd hj (by omega), rfl⟩
  case round =>
    obtain ⟨k, hk, rfl, hall, rfl⟩ := hrel
    by_cases hlt : k < pss.length
    · obtain ⟨b, off, rfl, hb, u, hu, hs⟩ := h.at hlt
      have hkI : (k : Int) < (pss.length : Int) := by omega
      have hmem : pss.getD k [] ∈ pss := by rw [List.getD_eq_getElem?_getD, List.getElem?_eq_getElem hlt]; exact List.getElem_mem hlt
      generalize hP : pss.getD k [] = P at *
      have HP := Lib.hid hP
      clear hP
      obtain ⟨ua, uc, rfl, _, _⟩ := hs.shape
      rw [List.length_map] at *
      by_cases hx : (P.length : Int) = size
      · have HX := Lib.hid hx
        have hx' : ((P.length : Int) != size) = false := by simpa using hx
        clear hs hx
        go_wp2
        go_roundw
        case rel =>
          refine ⟨k + 1, by omega, by go_num, fun j hj => ?_, by first | rfl | trivial⟩
          rcases Nat.lt_or_ge j k with h | h
          · exact hall.out j h
          · obtain rfl : j = k := by omega
            rw [HP.out]; exact HX.out
        case measure => simp [intOf]; omega
      · have hx' : ((P.length : Int) != size) = true := by simpa using hx
        have HD := Lib.hid (show decide (∀ p ∈ pss, (p.length : Int) = size) = false by
          simp only [decide_eq_false_iff_not]
          intro hq
          exact hx (hq _ hmem))
        clear hs hx
        go_wp2
        go_ret
        exact ⟨ret_bool HD.out.symm, rfl⟩
    · have hkI : ¬ (k : Int) < (pss.length : Int) := by omega
      have HD := Lib.hid (show decide (∀ p ∈ pss, (p.length : Int) = size) = true by
        simp only [decide_eq_true_eq]
        intro p hp
        obtain ⟨j, hj, rfl⟩ := List.mem_iff_getElem.1 hp
        have := hall.out j (by omega)
        rwa [List.getD_eq_getElem?_getD, List.getElem?_eq_getElem hj] at this)
      go_wp2
      go_ret
      exact ⟨ret_bool HD.out.symm, rfl⟩

/-- The value is a record. -/
def RecV (w : World) (v : Value) (ep ti : Int) (tr : List Int) (co : Int) (li : List Int) (ln : List (List Int)) : Prop :=
  ∃ vt vl vk, v = .agg #[.int .i64 ep, .int .i64 ti, vt, .int .i64 co, vl, vk] ∧ Sl w vt (tr.map (Value.int .u8)) ∧ Sl w vl (li.map (Value.int .u8)) ∧ Sls w vk ln
theorem RecV.below {w w' : World} {v : Value} {ep ti co : Int} {tr li : List Int} {ln : List (List Int)} (h : RecV w v ep ti tr co li ln) {B : Nat} (hb : Below B w w') (hB : w.heap.size ≤ B) : RecV w' v ep ti tr co li ln := by
  obtain ⟨vt, vl, vk, rfl, h1, h2, h3⟩ := h
  exact ⟨vt, vl, vk, rfl, h1.below hb hB, h2.below hb hB, h3.below hb hB⟩

end Go.Proofs.YtililoojjfcfgaaDoor

namespace Go.Proofs.YtililoojjfcfgaaDoor
open Go.RowKit
set_option linter.unusedVariables false
set_option linter.unusedSimpArgs false

set_option maxRecDepth 100000 in
set_option maxHeartbeats 4000000 in
theorem can_any (size ep ti : Int) (tr : List Int) (co : Int) (li : List Int) (ln : List (List Int)) (v : Value) (w : World) (hz0 : -9223372036854775808 ≤ size) (hz1 : size ≤ 9223372036854775807) (hr : RecV w v ep ti tr co li ln) (hT : TzTab w) :
    Calls Tryd.prog 44 #[.int .i64 size, v] w fun e w' => e = .returned (.bool (decide (canI size ep ti tr co li ln))) ∧ Below w.heap.size w w' := by
  obtain ⟨vt, vl, vk, rfl, ht, hl, hk⟩ := hr
  obtain ⟨ta, tn, tc, rfl⟩ := ht.val
  obtain ⟨la, lc, lcc, rfl⟩ := hl.val
  obtain ⟨ka, kc, rfl, hkc, hkm⟩ := hk.shape
  have hb1 : Below w.heap.size w (w.alloc (.cells #[.int .i64 ep, .int .i64 ti, .slice ta tn tc, .int .i64 co, .slice la lc lcc, .slice ka ln.length kc] 25)) := (Below.refl _ _).alloc (Nat.le_refl _) _
  have kR := Blk.new w 25 #[.int .i64 ep, .int .i64 ti, .slice ta tn tc, .int .i64 co, .slice la lc lcc, .slice ka ln.length kc]
  have ht1 := ht.below hb1 (Nat.le_refl _)
  have hl1 := hl.below hb1 (Nat.le_refl _)
  have hk1 := hk.below hb1 (Nat.le_refl _)
  have hT1 := hT.below hb1
  generalize hw1 : (w.alloc (.cells #[.int .i64 ep, .int .i64 ti, .slice ta tn tc, .int .i64 co, .slice la lc lcc, .slice ka ln.length kc] 25)) = w1 at *
  have c0 : w1.cell? ⟨w.heap.size, 0, none⟩ = some (.int .i64 ep) := kR.cell 0
  have c1 : w1.cell? ⟨w.heap.size, 1, none⟩ = some (.int .i64 ti) := kR.cell 1
  have c2 : w1.cell? ⟨w.heap.size, 2, none⟩ = some (.slice ta tn tc) := kR.cell 2
  have c3 : w1.cell? ⟨w.heap.size, 3, none⟩ = some (.int .i64 co) := kR.cell 3
  have c4 : w1.cell? ⟨w.heap.size, 4, none⟩ = some (.slice la lc lcc) := kR.cell 4
  have c5 : w1.cell? ⟨w.heap.size, 5, none⟩ = some (.slice ka ln.length kc) := kR.cell 5
  by_cases hs : 0 ≤ size - 1 ∧ size - 1 ≤ 31
  · by_cases he : 0 ≤ ep ∧ ep ≤ 255
    · by_cases hti : 0 ≤ ti ∧ ti ≤ 1125899906842624
      · by_cases hco : 0 ≤ co ∧ co ≤ 32
        · have W0 := Lib.hid (within_any (size - 1) 31 w1)
          rw [decide_eq_true hs] at W0
          have W1 := Lib.hid (within_any ep 255 w1)
          rw [decide_eq_true he] at W1
          have W2 := Lib.hid (within_any ti 1125899906842624 w1)
          rw [decide_eq_true hti] at W2
          have W3 := Lib.hid (within_any co 32 w1)
          rw [decide_eq_true hco] at W3
          have hsI : -9223372036854775808 ≤ size - 1 ∧ size - 1 ≤ 9223372036854775807 := by omega
          have HC : Hid (canI size ep ti tr co li ln ↔ (((tr.length : Int) = size ∧ (li.length : Int) = size) ∧ ln.length = linksI ep ∧ ∀ x ∈ ln, (x.length : Int) = size)) := ⟨fun h => ⟨h.2.2.2.2.1, h.2.2.2.2.2.1, h.2.2.2.2.2.2⟩, fun h => ⟨hs, he, hti, hco, h.1, h.2.1, h.2.2⟩⟩
          have hbL : Below w1.heap.size w1 (w1.alloc (.cells #[.slice ta tn tc, .slice la lc lcc] 22)) := (Below.refl _ _).alloc (Nat.le_refl _) _
          have hSL := Sls.litA _ 22 (show SlAll w1 [.slice ta tn tc, .slice la lc lcc] [tr, li] from ⟨ht1, hl1, trivial⟩) (by simp [maxLen])
          have HS1 := Lib.hid (fun (w2 : World) (hb : Below (w1.alloc (.cells #[.slice ta tn tc, .slice la lc lcc] 22)).heap.size (w1.alloc (.cells #[.slice ta tn tc, .slice la lc lcc] 22)) w2) => rsized_any size (.slice (some ⟨w1.heap.size, 0, none⟩) 2 2) [tr, li] w2 (hSL.below hb (Nat.le_refl _)))
          have kRL := kR.belowS hbL
          have d0 : (w1.alloc (.cells #[.slice ta tn tc, .slice la lc lcc] 22)).cell? ⟨w.heap.size, 0, none⟩ = some (.int .i64 ep) := kRL.cell 0
          have d2 : (w1.alloc (.cells #[.slice ta tn tc, .slice la lc lcc] 22)).cell? ⟨w.heap.size, 2, none⟩ = some (.slice ta tn tc) := kRL.cell 2
          have d4 : (w1.alloc (.cells #[.slice ta tn tc, .slice la lc lcc] 22)).cell? ⟨w.heap.size, 4, none⟩ = some (.slice la lc lcc) := kRL.cell 4
          have d5 : (w1.alloc (.cells #[.slice ta tn tc, .slice la lc lcc] 22)).cell? ⟨w.heap.size, 5, none⟩ = some (.slice ka ln.length kc) := kRL.cell 5
          have HGD := Lib.hid (And.intro d0 (And.intro d2 (And.intro d4 d5)))
          have HGC := Lib.hid (And.intro c0 (And.intro c2 (And.intro c4 c5)))
          clear d0 d2 d4 d5 kRL hSL
          have HLK := Lib.hid (fun (w2 : World) (hb : Below w1.heap.size w1 w2) => links_any ep he.1 he.2 w2 (hT1.below hb))
          have HS2 := Lib.hid (fun (w2 : World) (hb : Below w1.heap.size w1 w2) => rsized_any size (.slice ka ln.length kc) ln w2 (hk1.below hb (Nat.le_refl _)))
          have HG := Lib.hid (fun (w2 : World) (hb : Below w1.heap.size w1 w2) => kR.belowS hb)
          clear hs he hti hco ht hl hk ht1 hl1 hk1 hT hT1
          -- ARMS
          have HB := Lib.hid (hb1.trans (hbL.mono hb1.size))
          have hbF : Below w.heap.size w (w1.alloc (.cells #[.slice ta tn tc, .slice la lc lcc] 22)).drew := ⟨HB.out.os, HB.out.tape, HB.out.output, HB.out.size, HB.out.block⟩
          generalize hLK : linksI ep = LK at *
          by_cases hA : (tr.length : Int) = size ∧ (li.length : Int) = size
          · have hdA : decide (∀ p ∈ [tr, li], (p.length : Int) = size) = true := by simp [hA.1, hA.2]
            simp only [hdA] at HS1
            have HLK := Lib.hid (fun (w2 : World) (hb : Below (w1.alloc (.cells #[.slice ta tn tc, .slice la lc lcc] 22)).heap.size (w1.alloc (.cells #[.slice ta tn tc, .slice la lc lcc] 22)) w2) => HLK.out w2 (hbL.trans (hb.mono hbL.size)))
            have HS2 := Lib.hid (fun (w2 : World) (hb : Below (w1.alloc (.cells #[.slice ta tn tc, .slice la lc lcc] 22)).heap.size (w1.alloc (.cells #[.slice ta tn tc, .slice la lc lcc] 22)) w2) => HS2.out w2 (hbL.trans (hb.mono hbL.size)))
            by_cases hB : ln.length = LK
            · have hBI : ((ln.length : Int) == (LK : Int)) = true := by simp [hB]
              have HD := Lib.hid (show decide (canI size ep ti tr co li ln) = decide (∀ p ∈ ln, (p.length : Int) = size) by rw [decide_eq_decide]; exact ⟨fun h => (HC.out.1 h).2.2, fun h => HC.out.2 ⟨hA, hB, h⟩⟩)
              generalize decide (∀ p ∈ ln, (p.length : Int) = size) = D at *
              clear hA hB HC hLK hdA
              go_enter Tryd.func44, Tryd.ntmps44
              go_wp2_with fail
              refine W0.out.mono ?_
              rintro e w2 ⟨rfl, rfl⟩
              go_wp2_with fail
              refine W1.out.mono ?_
              rintro e w2 ⟨rfl, rfl⟩
              go_wp2_with fail
              refine W2.out.mono ?_
              rintro e w2 ⟨rfl, rfl⟩
              go_wp2_with fail
              refine W3.out.mono ?_
              rintro e w2 ⟨rfl, rfl⟩
              clear hw1
              go_wp2
              refine wp_region_held_drew (S := (fun w' => w'.cell? ⟨w.heap.size, 0, none⟩ = some (.int .i64 ep) ∧ w'.cell? ⟨w.heap.size, 2, none⟩ = some (.slice ta tn tc) ∧ w'.cell? ⟨w.heap.size, 4, none⟩ = some (.slice la lc lcc) ∧ w'.cell? ⟨w.heap.size, 5, none⟩ = some (.slice ka ln.length kc))) (by kernel_rfl) (by exact HGC.out) (fun hHeld => ?_)
              refine wpAnyH_take (i := 0) (v := ?_) rfl (by kernel_rfl) (by kernel_rfl) (by kernel_rfl) (fun _ _ _ h => h) (Or.inl ⟨by kernel_rfl, ?_⟩) hHeld ?_; rotate_left; (focus (intro w hSw; (try dsimp only at hSw); go_simp; (try with_reducible rfl))); simp only [Act.put, List.setIfInBounds_toArray, List.set_cons_zero, List.set_cons_succ]
              refine wpAnyH_take (i := 1) (v := ?_) rfl (by kernel_rfl) (by kernel_rfl) (by kernel_rfl) (fun _ _ _ h => h) (Or.inl ⟨by kernel_rfl, ?_⟩) hHeld ?_; rotate_left; (focus (intro w hSw; (try dsimp only at hSw); go_simp; (try with_reducible rfl))); simp only [Act.put, List.setIfInBounds_toArray, List.set_cons_zero, List.set_cons_succ]
              refine wpAnyH_take (i := 2) (v := ?_) rfl (by kernel_rfl) (by kernel_rfl) (by kernel_rfl) (fun _ _ _ h => h) (Or.inl ⟨by kernel_rfl, ?_⟩) hHeld ?_; rotate_left; (focus (intro w hSw; (try dsimp only at hSw); go_simp; (try with_reducible rfl))); simp only [Act.put, List.setIfInBounds_toArray, List.set_cons_zero, List.set_cons_succ]
              refine wpAnyH_take (i := 3) (v := ?_) rfl (by kernel_rfl) (by kernel_rfl) (by kernel_rfl) (fun _ _ _ h => h) (Or.inl ⟨by kernel_rfl, ?_⟩) hHeld ?_; rotate_left; (focus (intro w hSw; (try dsimp only at hSw); go_simp; (try with_reducible rfl))); simp only [Act.put, List.setIfInBounds_toArray, List.set_cons_zero, List.set_cons_succ]
              refine wpAnyH_take (i := 4) (v := ?_) rfl (by kernel_rfl) (by kernel_rfl) (by kernel_rfl) (fun _ _ _ h => h) (Or.inl ⟨by kernel_rfl, ?_⟩) hHeld ?_; rotate_left; (focus (intro w hSw; (try dsimp only at hSw); go_simp; (try with_reducible rfl))); simp only [Act.put, List.setIfInBounds_toArray, List.set_cons_zero, List.set_cons_succ]
              refine wpAnyH_take (i := 5) (v := ?_) rfl (by kernel_rfl) (by kernel_rfl) (by kernel_rfl) (fun _ _ _ h => h) (Or.inl ⟨by kernel_rfl, ?_⟩) hHeld ?_; rotate_left; (focus (intro w hSw; (try dsimp only at hSw); go_simp; (try with_reducible rfl))); simp only [Act.put, List.setIfInBounds_toArray, List.set_cons_zero, List.set_cons_succ]
              refine wpAnyH_take (i := 6) (v := ?_) rfl (by kernel_rfl) (by kernel_rfl) (by kernel_rfl) (fun _ _ _ h => h) (Or.inl ⟨by kernel_rfl, ?_⟩) hHeld ?_; rotate_left; (focus (intro w hSw; (try dsimp only at hSw); go_simp; (try with_reducible rfl))); simp only [Act.put, List.setIfInBounds_toArray, List.set_cons_zero, List.set_cons_succ]
              refine wpAnyH_ready (rs := [7]) (by kernel_rfl) (by simp) ?_
              refine AllReadyH.cons rfl (fun K hK => ?_) AllReadyH.nil
              go_simp
              refine hK.out _ _ (by exact HGD.out) (fun hHeld => ?_)
              try simp only [Act.put, List.setIfInBounds_toArray, List.set_cons_zero, List.set_cons_succ]
              refine wpAnyH_ready (rs := [8]) (by kernel_rfl) (by simp) ?_
              refine AllReadyH.cons rfl (fun K hK => ?_) AllReadyH.nil
              go_simp
              refine (HS1.out _ (by first | exact Below.refl _ _ | exact (Below.refl _ _).drew)).mono ?_; rintro e w3 ⟨rfl, rfl⟩; go_simp
              refine hK.out _ _ (by exact HGD.out) (fun hHeld => ?_)
              try simp only [Act.put, List.setIfInBounds_toArray, List.set_cons_zero, List.set_cons_succ]
              refine wpAnyH_take (i := 9) (v := ?_) rfl (by kernel_rfl) (by kernel_rfl) (by kernel_rfl) (fun _ _ _ h => h) (Or.inl ⟨by kernel_rfl, ?_⟩) hHeld ?_; rotate_left; (focus (intro w hSw; (try dsimp only at hSw); go_simp; (try with_reducible rfl))); simp only [Act.put, List.setIfInBounds_toArray, List.set_cons_zero, List.set_cons_succ]
              refine wpAnyH_take (i := 10) (v := ?_) rfl (by kernel_rfl) (by kernel_rfl) (by kernel_rfl) (fun _ _ _ h => h) (Or.inl ⟨by kernel_rfl, ?_⟩) hHeld ?_; rotate_left; (focus (intro w hSw; (try dsimp only at hSw); go_simp; (try with_reducible rfl))); simp only [Act.put, List.setIfInBounds_toArray, List.set_cons_zero, List.set_cons_succ]
              refine wpAnyH_take (i := 11) (v := ?_) rfl (by kernel_rfl) (by kernel_rfl) (by kernel_rfl) (fun _ _ _ h => h) (Or.inl ⟨by kernel_rfl, ?_⟩) hHeld ?_; rotate_left; (focus (intro w hSw; (try dsimp only at hSw); go_simp; (try with_reducible rfl))); simp only [Act.put, List.setIfInBounds_toArray, List.set_cons_zero, List.set_cons_succ]
              refine wpAnyH_take (i := 12) (v := ?_) rfl (by kernel_rfl) (by kernel_rfl) (by kernel_rfl) (fun _ _ _ h => h) (Or.inl ⟨by kernel_rfl, ?_⟩) hHeld ?_; rotate_left; (focus (intro w hSw; (try dsimp only at hSw); go_simp; (try with_reducible rfl))); simp only [Act.put, List.setIfInBounds_toArray, List.set_cons_zero, List.set_cons_succ]
              refine wpAnyH_take (i := 13) (v := ?_) rfl (by kernel_rfl) (by kernel_rfl) (by kernel_rfl) (fun _ _ _ h => h) (Or.inl ⟨by kernel_rfl, ?_⟩) hHeld ?_; rotate_left; (focus (intro w hSw; (try dsimp only at hSw); go_simp; (try with_reducible rfl))); simp only [Act.put, List.setIfInBounds_toArray, List.set_cons_zero, List.set_cons_succ]
              refine wpAnyH_take (i := 14) (v := ?_) rfl (by kernel_rfl) (by kernel_rfl) (by kernel_rfl) (fun _ _ _ h => h) (Or.inl ⟨by kernel_rfl, ?_⟩) hHeld ?_; rotate_left; (focus (intro w hSw; (try dsimp only at hSw); go_simp; (try with_reducible rfl))); simp only [Act.put, List.setIfInBounds_toArray, List.set_cons_zero, List.set_cons_succ]
              refine wpAnyH_take (i := 15) (v := ?_) rfl (by kernel_rfl) (by kernel_rfl) (by kernel_rfl) (fun _ _ _ h => h) (Or.inl ⟨by kernel_rfl, ?_⟩) hHeld ?_; rotate_left; (focus (intro w hSw; (try dsimp only at hSw); go_simp; (try with_reducible rfl))); simp only [Act.put, List.setIfInBounds_toArray, List.set_cons_zero, List.set_cons_succ]
              refine wpAnyH_ready (rs := [16]) (by kernel_rfl) (by simp) ?_
              refine AllReadyH.cons rfl (fun K hK => ?_) AllReadyH.nil
              go_simp
              refine (HLK.out _ (by first | exact Below.refl _ _ | exact (Below.refl _ _).drew)).mono ?_; rintro e w3 ⟨rfl, rfl⟩; go_simp
              refine hK.out _ _ (by exact HGD.out) (fun hHeld => ?_)
              try simp only [Act.put, List.setIfInBounds_toArray, List.set_cons_zero, List.set_cons_succ]
              refine wpAnyH_take (i := 17) (v := ?_) rfl (by kernel_rfl) (by kernel_rfl) (by kernel_rfl) (fun _ _ _ h => h) (Or.inl ⟨by kernel_rfl, ?_⟩) hHeld ?_; rotate_left; (focus (intro w hSw; (try dsimp only at hSw); go_simp; (try with_reducible rfl))); simp only [Act.put, List.setIfInBounds_toArray, List.set_cons_zero, List.set_cons_succ]
              refine wpAnyH_take (i := 18) (v := ?_) rfl (by kernel_rfl) (by kernel_rfl) (by kernel_rfl) (fun _ _ _ h => h) (Or.inl ⟨by kernel_rfl, ?_⟩) hHeld ?_; rotate_left; (focus (intro w hSw; (try dsimp only at hSw); go_simp; (try with_reducible rfl))); simp only [Act.put, List.setIfInBounds_toArray, List.set_cons_zero, List.set_cons_succ]
              refine wpAnyH_take (i := 19) (v := ?_) rfl (by kernel_rfl) (by kernel_rfl) (by kernel_rfl) (fun _ _ _ h => h) (Or.inl ⟨by kernel_rfl, ?_⟩) hHeld ?_; rotate_left; (focus (intro w hSw; (try dsimp only at hSw); go_simp; (try with_reducible rfl))); simp only [Act.put, List.setIfInBounds_toArray, List.set_cons_zero, List.set_cons_succ]
              refine wpAnyH_take (i := 20) (v := ?_) rfl (by kernel_rfl) (by kernel_rfl) (by kernel_rfl) (fun _ _ _ h => h) (Or.inl ⟨by kernel_rfl, ?_⟩) hHeld ?_; rotate_left; (focus (intro w hSw; (try dsimp only at hSw); go_simp; (try with_reducible rfl))); simp only [Act.put, List.setIfInBounds_toArray, List.set_cons_zero, List.set_cons_succ]
              refine wpAnyH_take (i := 21) (v := ?_) rfl (by kernel_rfl) (by kernel_rfl) (by kernel_rfl) (fun _ _ _ h => h) (Or.inl ⟨by kernel_rfl, ?_⟩) hHeld ?_; rotate_left; (focus (intro w hSw; (try dsimp only at hSw); go_simp; (try with_reducible rfl))); simp only [Act.put, List.setIfInBounds_toArray, List.set_cons_zero, List.set_cons_succ]
              refine wpAnyH_take (i := 22) (v := ?_) rfl (by kernel_rfl) (by kernel_rfl) (by kernel_rfl) (fun _ _ _ h => h) (Or.inl ⟨by kernel_rfl, ?_⟩) hHeld ?_; rotate_left; (focus (intro w hSw; (try dsimp only at hSw); go_simp; (try with_reducible rfl))); simp only [Act.put, List.setIfInBounds_toArray, List.set_cons_zero, List.set_cons_succ]
              refine wpAnyH_ready (rs := [23]) (by kernel_rfl) (by simp) ?_
              refine AllReadyH.cons rfl (fun K hK => ?_) AllReadyH.nil
              go_simp
              refine (HS2.out _ (by first | exact Below.refl _ _ | exact (Below.refl _ _).drew)).mono ?_; rintro e w3 ⟨rfl, rfl⟩; go_simp
              refine hK.out _ _ (by exact HGD.out) (fun hHeld => ?_)
              try simp only [Act.put, List.setIfInBounds_toArray, List.set_cons_zero, List.set_cons_succ]
              refine wpAnyH_take (i := 24) (v := ?_) rfl (by kernel_rfl) (by kernel_rfl) (by kernel_rfl) (fun _ _ _ h => h) (Or.inl ⟨by kernel_rfl, ?_⟩) hHeld ?_; rotate_left; (focus (intro w hSw; (try dsimp only at hSw); go_simp; (try with_reducible rfl))); simp only [Act.put, List.setIfInBounds_toArray, List.set_cons_zero, List.set_cons_succ]
              refine wpAnyH_take (i := 25) (v := ?_) rfl (by kernel_rfl) (by kernel_rfl) (by kernel_rfl) (fun _ _ _ h => h) (Or.inl ⟨by kernel_rfl, ?_⟩) hHeld ?_; rotate_left; (focus (intro w hSw; (try dsimp only at hSw); go_simp; (try with_reducible rfl))); simp only [Act.put, List.setIfInBounds_toArray, List.set_cons_zero, List.set_cons_succ]
              refine wpAnyH_done (by kernel_rfl) ?_ _
              try simp only [List.getElem_toArray, List.getElem_cons_succ, List.getElem_cons_zero, Act.put, List.setIfInBounds_toArray, List.set_cons_zero, List.set_cons_succ]
              go_wp2
              go_ret
              exact ⟨ret_bool HD.out.symm, hbF⟩
            · have hBI : ((ln.length : Int) == (LK : Int)) = false := by simp; omega
              have HD := Lib.hid (show decide (canI size ep ti tr co li ln) = false by simp only [decide_eq_false_iff_not]; exact fun h => hB (HC.out.1 h).2.1)
              clear hA hB HC hLK hdA
              go_enter Tryd.func44, Tryd.ntmps44
              go_wp2_with fail
              refine W0.out.mono ?_
              rintro e w2 ⟨rfl, rfl⟩
              go_wp2_with fail
              refine W1.out.mono ?_
              rintro e w2 ⟨rfl, rfl⟩
              go_wp2_with fail
              refine W2.out.mono ?_
              rintro e w2 ⟨rfl, rfl⟩
              go_wp2_with fail
              refine W3.out.mono ?_
              rintro e w2 ⟨rfl, rfl⟩
              clear hw1
              go_wp2
              refine wp_region_held_drew (S := (fun w' => w'.cell? ⟨w.heap.size, 0, none⟩ = some (.int .i64 ep) ∧ w'.cell? ⟨w.heap.size, 2, none⟩ = some (.slice ta tn tc) ∧ w'.cell? ⟨w.heap.size, 4, none⟩ = some (.slice la lc lcc) ∧ w'.cell? ⟨w.heap.size, 5, none⟩ = some (.slice ka ln.length kc))) (by kernel_rfl) (by exact HGC.out) (fun hHeld => ?_)
              refine wpAnyH_take (i := 0) (v := ?_) rfl (by kernel_rfl) (by kernel_rfl) (by kernel_rfl) (fun _ _ _ h => h) (Or.inl ⟨by kernel_rfl, ?_⟩) hHeld ?_; rotate_left; (focus (intro w hSw; (try dsimp only at hSw); go_simp; (try with_reducible rfl))); simp only [Act.put, List.setIfInBounds_toArray, List.set_cons_zero, List.set_cons_succ]
              refine wpAnyH_take (i := 1) (v := ?_) rfl (by kernel_rfl) (by kernel_rfl) (by kernel_rfl) (fun _ _ _ h => h) (Or.inl ⟨by kernel_rfl, ?_⟩) hHeld ?_; rotate_left; (focus (intro w hSw; (try dsimp only at hSw); go_simp; (try with_reducible rfl))); simp only [Act.put, List.setIfInBounds_toArray, List.set_cons_zero, List.set_cons_succ]
              refine wpAnyH_take (i := 2) (v := ?_) rfl (by kernel_rfl) (by kernel_rfl) (by kernel_rfl) (fun _ _ _ h => h) (Or.inl ⟨by kernel_rfl, ?_⟩) hHeld ?_; rotate_left; (focus (intro w hSw; (try dsimp only at hSw); go_simp; (try with_reducible rfl))); simp only [Act.put, List.setIfInBounds_toArray, List.set_cons_zero, List.set_cons_succ]
              refine wpAnyH_take (i := 3) (v := ?_) rfl (by kernel_rfl) (by kernel_rfl) (by kernel_rfl) (fun _ _ _ h => h) (Or.inl ⟨by kernel_rfl, ?_⟩) hHeld ?_; rotate_left; (focus (intro w hSw; (try dsimp only at hSw); go_simp; (try with_reducible rfl))); simp only [Act.put, List.setIfInBounds_toArray, List.set_cons_zero, List.set_cons_succ]
              refine wpAnyH_take (i := 4) (v := ?_) rfl (by kernel_rfl) (by kernel_rfl) (by kernel_rfl) (fun _ _ _ h => h) (Or.inl ⟨by kernel_rfl, ?_⟩) hHeld ?_; rotate_left; (focus (intro w hSw; (try dsimp only at hSw); go_simp; (try with_reducible rfl))); simp only [Act.put, List.setIfInBounds_toArray, List.set_cons_zero, List.set_cons_succ]
              refine wpAnyH_take (i := 5) (v := ?_) rfl (by kernel_rfl) (by kernel_rfl) (by kernel_rfl) (fun _ _ _ h => h) (Or.inl ⟨by kernel_rfl, ?_⟩) hHeld ?_; rotate_left; (focus (intro w hSw; (try dsimp only at hSw); go_simp; (try with_reducible rfl))); simp only [Act.put, List.setIfInBounds_toArray, List.set_cons_zero, List.set_cons_succ]
              refine wpAnyH_take (i := 6) (v := ?_) rfl (by kernel_rfl) (by kernel_rfl) (by kernel_rfl) (fun _ _ _ h => h) (Or.inl ⟨by kernel_rfl, ?_⟩) hHeld ?_; rotate_left; (focus (intro w hSw; (try dsimp only at hSw); go_simp; (try with_reducible rfl))); simp only [Act.put, List.setIfInBounds_toArray, List.set_cons_zero, List.set_cons_succ]
              refine wpAnyH_ready (rs := [7]) (by kernel_rfl) (by simp) ?_
              refine AllReadyH.cons rfl (fun K hK => ?_) AllReadyH.nil
              go_simp
              refine hK.out _ _ (by exact HGD.out) (fun hHeld => ?_)
              try simp only [Act.put, List.setIfInBounds_toArray, List.set_cons_zero, List.set_cons_succ]
              refine wpAnyH_ready (rs := [8]) (by kernel_rfl) (by simp) ?_
              refine AllReadyH.cons rfl (fun K hK => ?_) AllReadyH.nil
              go_simp
              refine (HS1.out _ (by first | exact Below.refl _ _ | exact (Below.refl _ _).drew)).mono ?_; rintro e w3 ⟨rfl, rfl⟩; go_simp
              refine hK.out _ _ (by exact HGD.out) (fun hHeld => ?_)
              try simp only [Act.put, List.setIfInBounds_toArray, List.set_cons_zero, List.set_cons_succ]
              refine wpAnyH_take (i := 9) (v := ?_) rfl (by kernel_rfl) (by kernel_rfl) (by kernel_rfl) (fun _ _ _ h => h) (Or.inl ⟨by kernel_rfl, ?_⟩) hHeld ?_; rotate_left; (focus (intro w hSw; (try dsimp only at hSw); go_simp; (try with_reducible rfl))); simp only [Act.put, List.setIfInBounds_toArray, List.set_cons_zero, List.set_cons_succ]
              refine wpAnyH_take (i := 10) (v := ?_) rfl (by kernel_rfl) (by kernel_rfl) (by kernel_rfl) (fun _ _ _ h => h) (Or.inl ⟨by kernel_rfl, ?_⟩) hHeld ?_; rotate_left; (focus (intro w hSw; (try dsimp only at hSw); go_simp; (try with_reducible rfl))); simp only [Act.put, List.setIfInBounds_toArray, List.set_cons_zero, List.set_cons_succ]
              refine wpAnyH_take (i := 11) (v := ?_) rfl (by kernel_rfl) (by kernel_rfl) (by kernel_rfl) (fun _ _ _ h => h) (Or.inl ⟨by kernel_rfl, ?_⟩) hHeld ?_; rotate_left; (focus (intro w hSw; (try dsimp only at hSw); go_simp; (try with_reducible rfl))); simp only [Act.put, List.setIfInBounds_toArray, List.set_cons_zero, List.set_cons_succ]
              refine wpAnyH_take (i := 12) (v := ?_) rfl (by kernel_rfl) (by kernel_rfl) (by kernel_rfl) (fun _ _ _ h => h) (Or.inl ⟨by kernel_rfl, ?_⟩) hHeld ?_; rotate_left; (focus (intro w hSw; (try dsimp only at hSw); go_simp; (try with_reducible rfl))); simp only [Act.put, List.setIfInBounds_toArray, List.set_cons_zero, List.set_cons_succ]
              refine wpAnyH_take (i := 13) (v := ?_) rfl (by kernel_rfl) (by kernel_rfl) (by kernel_rfl) (fun _ _ _ h => h) (Or.inl ⟨by kernel_rfl, ?_⟩) hHeld ?_; rotate_left; (focus (intro w hSw; (try dsimp only at hSw); go_simp; (try with_reducible rfl))); simp only [Act.put, List.setIfInBounds_toArray, List.set_cons_zero, List.set_cons_succ]
              refine wpAnyH_take (i := 14) (v := ?_) rfl (by kernel_rfl) (by kernel_rfl) (by kernel_rfl) (fun _ _ _ h => h) (Or.inl ⟨by kernel_rfl, ?_⟩) hHeld ?_; rotate_left; (focus (intro w hSw; (try dsimp only at hSw); go_simp; (try with_reducible rfl))); simp only [Act.put, List.setIfInBounds_toArray, List.set_cons_zero, List.set_cons_succ]
              refine wpAnyH_take (i := 15) (v := ?_) rfl (by kernel_rfl) (by kernel_rfl) (by kernel_rfl) (fun _ _ _ h => h) (Or.inl ⟨by kernel_rfl, ?_⟩) hHeld ?_; rotate_left; (focus (intro w hSw; (try dsimp only at hSw); go_simp; (try with_reducible rfl))); simp only [Act.put, List.setIfInBounds_toArray, List.set_cons_zero, List.set_cons_succ]
              refine wpAnyH_ready (rs := [16]) (by kernel_rfl) (by simp) ?_
              refine AllReadyH.cons rfl (fun K hK => ?_) AllReadyH.nil
              go_simp
              refine (HLK.out _ (by first | exact Below.refl _ _ | exact (Below.refl _ _).drew)).mono ?_; rintro e w3 ⟨rfl, rfl⟩; go_simp
              refine hK.out _ _ (by exact HGD.out) (fun hHeld => ?_)
              try simp only [Act.put, List.setIfInBounds_toArray, List.set_cons_zero, List.set_cons_succ]
              refine wpAnyH_take (i := 17) (v := ?_) rfl (by kernel_rfl) (by kernel_rfl) (by kernel_rfl) (fun _ _ _ h => h) (Or.inl ⟨by kernel_rfl, ?_⟩) hHeld ?_; rotate_left; (focus (intro w hSw; (try dsimp only at hSw); go_simp; (try with_reducible rfl))); simp only [Act.put, List.setIfInBounds_toArray, List.set_cons_zero, List.set_cons_succ]
              refine wpAnyH_take (i := 18) (v := ?_) rfl (by kernel_rfl) (by kernel_rfl) (by kernel_rfl) (fun _ _ _ h => h) (Or.inl ⟨by kernel_rfl, ?_⟩) hHeld ?_; rotate_left; (focus (intro w hSw; (try dsimp only at hSw); go_simp; (try with_reducible rfl))); simp only [Act.put, List.setIfInBounds_toArray, List.set_cons_zero, List.set_cons_succ]
              refine wpAnyH_take (i := 19) (v := ?_) rfl (by kernel_rfl) (by kernel_rfl) (by kernel_rfl) (fun _ _ _ h => h) (Or.inl ⟨by kernel_rfl, ?_⟩) hHeld ?_; rotate_left; (focus (intro w hSw; (try dsimp only at hSw); go_simp; (try with_reducible rfl))); simp only [Act.put, List.setIfInBounds_toArray, List.set_cons_zero, List.set_cons_succ]
              refine wpAnyH_take (i := 20) (v := undef) rfl (by kernel_rfl) (by kernel_rfl) (by kernel_rfl) (fun _ _ _ h => h) (Or.inr ⟨by kernel_rfl, rfl⟩) hHeld ?_; simp only [Act.put, List.setIfInBounds_toArray, List.set_cons_zero, List.set_cons_succ]
              refine wpAnyH_take (i := 21) (v := undef) rfl (by kernel_rfl) (by kernel_rfl) (by kernel_rfl) (fun _ _ _ h => h) (Or.inr ⟨by kernel_rfl, rfl⟩) hHeld ?_; simp only [Act.put, List.setIfInBounds_toArray, List.set_cons_zero, List.set_cons_succ]
              refine wpAnyH_take (i := 22) (v := undef) rfl (by kernel_rfl) (by kernel_rfl) (by kernel_rfl) (fun _ _ _ h => h) (Or.inr ⟨by kernel_rfl, rfl⟩) hHeld ?_; simp only [Act.put, List.setIfInBounds_toArray, List.set_cons_zero, List.set_cons_succ]
              refine wpAnyH_take (i := 23) (v := undef) rfl (by kernel_rfl) (by kernel_rfl) (by kernel_rfl) (fun _ _ _ h => h) (Or.inr ⟨by kernel_rfl, rfl⟩) hHeld ?_; simp only [Act.put, List.setIfInBounds_toArray, List.set_cons_zero, List.set_cons_succ]
              refine wpAnyH_take (i := 24) (v := ?_) rfl (by kernel_rfl) (by kernel_rfl) (by kernel_rfl) (fun _ _ _ h => h) (Or.inl ⟨by kernel_rfl, ?_⟩) hHeld ?_; rotate_left; (focus (intro w hSw; (try dsimp only at hSw); go_simp; (try with_reducible rfl))); simp only [Act.put, List.setIfInBounds_toArray, List.set_cons_zero, List.set_cons_succ]
              refine wpAnyH_take (i := 25) (v := ?_) rfl (by kernel_rfl) (by kernel_rfl) (by kernel_rfl) (fun _ _ _ h => h) (Or.inl ⟨by kernel_rfl, ?_⟩) hHeld ?_; rotate_left; (focus (intro w hSw; (try dsimp only at hSw); go_simp; (try with_reducible rfl))); simp only [Act.put, List.setIfInBounds_toArray, List.set_cons_zero, List.set_cons_succ]
              refine wpAnyH_done (by kernel_rfl) ?_ _
              try simp only [List.getElem_toArray, List.getElem_cons_succ, List.getElem_cons_zero, Act.put, List.setIfInBounds_toArray, List.set_cons_zero, List.set_cons_succ]
              go_wp2
              go_ret
              exact ⟨ret_bool HD.out.symm, hbF⟩
          · have HD := Lib.hid (show decide (canI size ep ti tr co li ln) = false by simp only [decide_eq_false_iff_not]; exact fun h => hA (HC.out.1 h).1)
            have hdA : decide (∀ p ∈ [tr, li], (p.length : Int) = size) = false := by simp only [decide_eq_false_iff_not]; exact fun h => hA ⟨h _ (by simp), h _ (by simp)⟩
            simp only [hdA] at HS1
            clear hA HC hLK hdA
            go_enter Tryd.func44, Tryd.ntmps44
            go_wp2_with fail
            refine W0.out.mono ?_
            rintro e w2 ⟨rfl, rfl⟩
            go_wp2_with fail
            refine W1.out.mono ?_
            rintro e w2 ⟨rfl, rfl⟩
            go_wp2_with fail
            refine W2.out.mono ?_
            rintro e w2 ⟨rfl, rfl⟩
            go_wp2_with fail
            refine W3.out.mono ?_
            rintro e w2 ⟨rfl, rfl⟩
            clear hw1
            go_wp2
            refine wp_region_held_drew (S := (fun w' => w'.cell? ⟨w.heap.size, 0, none⟩ = some (.int .i64 ep) ∧ w'.cell? ⟨w.heap.size, 2, none⟩ = some (.slice ta tn tc) ∧ w'.cell? ⟨w.heap.size, 4, none⟩ = some (.slice la lc lcc) ∧ w'.cell? ⟨w.heap.size, 5, none⟩ = some (.slice ka ln.length kc))) (by kernel_rfl) (by exact HGC.out) (fun hHeld => ?_)
            refine wpAnyH_take (i := 0) (v := ?_) rfl (by kernel_rfl) (by kernel_rfl) (by kernel_rfl) (fun _ _ _ h => h) (Or.inl ⟨by kernel_rfl, ?_⟩) hHeld ?_; rotate_left; (focus (intro w hSw; (try dsimp only at hSw); go_simp; (try with_reducible rfl))); simp only [Act.put, List.setIfInBounds_toArray, List.set_cons_zero, List.set_cons_succ]
            refine wpAnyH_take (i := 1) (v := ?_) rfl (by kernel_rfl) (by kernel_rfl) (by kernel_rfl) (fun _ _ _ h => h) (Or.inl ⟨by kernel_rfl, ?_⟩) hHeld ?_; rotate_left; (focus (intro w hSw; (try dsimp only at hSw); go_simp; (try with_reducible rfl))); simp only [Act.put, List.setIfInBounds_toArray, List.set_cons_zero, List.set_cons_succ]
            refine wpAnyH_take (i := 2) (v := ?_) rfl (by kernel_rfl) (by kernel_rfl) (by kernel_rfl) (fun _ _ _ h => h) (Or.inl ⟨by kernel_rfl, ?_⟩) hHeld ?_; rotate_left; (focus (intro w hSw; (try dsimp only at hSw); go_simp; (try with_reducible rfl))); simp only [Act.put, List.setIfInBounds_toArray, List.set_cons_zero, List.set_cons_succ]
            refine wpAnyH_take (i := 3) (v := ?_) rfl (by kernel_rfl) (by kernel_rfl) (by kernel_rfl) (fun _ _ _ h => h) (Or.inl ⟨by kernel_rfl, ?_⟩) hHeld ?_; rotate_left; (focus (intro w hSw; (try dsimp only at hSw); go_simp; (try with_reducible rfl))); simp only [Act.put, List.setIfInBounds_toArray, List.set_cons_zero, List.set_cons_succ]
            refine wpAnyH_take (i := 4) (v := ?_) rfl (by kernel_rfl) (by kernel_rfl) (by kernel_rfl) (fun _ _ _ h => h) (Or.inl ⟨by kernel_rfl, ?_⟩) hHeld ?_; rotate_left; (focus (intro w hSw; (try dsimp only at hSw); go_simp; (try with_reducible rfl))); simp only [Act.put, List.setIfInBounds_toArray, List.set_cons_zero, List.set_cons_succ]
            refine wpAnyH_take (i := 5) (v := ?_) rfl (by kernel_rfl) (by kernel_rfl) (by kernel_rfl) (fun _ _ _ h => h) (Or.inl ⟨by kernel_rfl, ?_⟩) hHeld ?_; rotate_left; (focus (intro w hSw; (try dsimp only at hSw); go_simp; (try with_reducible rfl))); simp only [Act.put, List.setIfInBounds_toArray, List.set_cons_zero, List.set_cons_succ]
            refine wpAnyH_take (i := 6) (v := ?_) rfl (by kernel_rfl) (by kernel_rfl) (by kernel_rfl) (fun _ _ _ h => h) (Or.inl ⟨by kernel_rfl, ?_⟩) hHeld ?_; rotate_left; (focus (intro w hSw; (try dsimp only at hSw); go_simp; (try with_reducible rfl))); simp only [Act.put, List.setIfInBounds_toArray, List.set_cons_zero, List.set_cons_succ]
            refine wpAnyH_ready (rs := [7]) (by kernel_rfl) (by simp) ?_
            refine AllReadyH.cons rfl (fun K hK => ?_) AllReadyH.nil
            go_simp
            refine hK.out _ _ (by exact HGD.out) (fun hHeld => ?_)
            try simp only [Act.put, List.setIfInBounds_toArray, List.set_cons_zero, List.set_cons_succ]
            refine wpAnyH_ready (rs := [8]) (by kernel_rfl) (by simp) ?_
            refine AllReadyH.cons rfl (fun K hK => ?_) AllReadyH.nil
            go_simp
            refine (HS1.out _ (by first | exact Below.refl _ _ | exact (Below.refl _ _).drew)).mono ?_; rintro e w3 ⟨rfl, rfl⟩; go_simp
            refine hK.out _ _ (by exact HGD.out) (fun hHeld => ?_)
            try simp only [Act.put, List.setIfInBounds_toArray, List.set_cons_zero, List.set_cons_succ]
            refine wpAnyH_take (i := 9) (v := ?_) rfl (by kernel_rfl) (by kernel_rfl) (by kernel_rfl) (fun _ _ _ h => h) (Or.inl ⟨by kernel_rfl, ?_⟩) hHeld ?_; rotate_left; (focus (intro w hSw; (try dsimp only at hSw); go_simp; (try with_reducible rfl))); simp only [Act.put, List.setIfInBounds_toArray, List.set_cons_zero, List.set_cons_succ]
            refine wpAnyH_take (i := 10) (v := ?_) rfl (by kernel_rfl) (by kernel_rfl) (by kernel_rfl) (fun _ _ _ h => h) (Or.inl ⟨by kernel_rfl, ?_⟩) hHeld ?_; rotate_left; (focus (intro w hSw; (try dsimp only at hSw); go_simp; (try with_reducible rfl))); simp only [Act.put, List.setIfInBounds_toArray, List.set_cons_zero, List.set_cons_succ]
            refine wpAnyH_take (i := 11) (v := undef) rfl (by kernel_rfl) (by kernel_rfl) (by kernel_rfl) (fun _ _ _ h => h) (Or.inr ⟨by kernel_rfl, rfl⟩) hHeld ?_; simp only [Act.put, List.setIfInBounds_toArray, List.set_cons_zero, List.set_cons_succ]
            refine wpAnyH_take (i := 12) (v := undef) rfl (by kernel_rfl) (by kernel_rfl) (by kernel_rfl) (fun _ _ _ h => h) (Or.inr ⟨by kernel_rfl, rfl⟩) hHeld ?_; simp only [Act.put, List.setIfInBounds_toArray, List.set_cons_zero, List.set_cons_succ]
            refine wpAnyH_take (i := 13) (v := undef) rfl (by kernel_rfl) (by kernel_rfl) (by kernel_rfl) (fun _ _ _ h => h) (Or.inr ⟨by kernel_rfl, rfl⟩) hHeld ?_; simp only [Act.put, List.setIfInBounds_toArray, List.set_cons_zero, List.set_cons_succ]
            refine wpAnyH_take (i := 14) (v := undef) rfl (by kernel_rfl) (by kernel_rfl) (by kernel_rfl) (fun _ _ _ h => h) (Or.inr ⟨by kernel_rfl, rfl⟩) hHeld ?_; simp only [Act.put, List.setIfInBounds_toArray, List.set_cons_zero, List.set_cons_succ]
            refine wpAnyH_take (i := 15) (v := undef) rfl (by kernel_rfl) (by kernel_rfl) (by kernel_rfl) (fun _ _ _ h => h) (Or.inr ⟨by kernel_rfl, rfl⟩) hHeld ?_; simp only [Act.put, List.setIfInBounds_toArray, List.set_cons_zero, List.set_cons_succ]
            refine wpAnyH_take (i := 16) (v := undef) rfl (by kernel_rfl) (by kernel_rfl) (by kernel_rfl) (fun _ _ _ h => h) (Or.inr ⟨by kernel_rfl, rfl⟩) hHeld ?_; simp only [Act.put, List.setIfInBounds_toArray, List.set_cons_zero, List.set_cons_succ]
            refine wpAnyH_take (i := 17) (v := undef) rfl (by kernel_rfl) (by kernel_rfl) (by kernel_rfl) (fun _ _ _ h => h) (Or.inr ⟨by kernel_rfl, rfl⟩) hHeld ?_; simp only [Act.put, List.setIfInBounds_toArray, List.set_cons_zero, List.set_cons_succ]
            refine wpAnyH_take (i := 18) (v := ?_) rfl (by kernel_rfl) (by kernel_rfl) (by kernel_rfl) (fun _ _ _ h => h) (Or.inl ⟨by kernel_rfl, ?_⟩) hHeld ?_; rotate_left; (focus (intro w hSw; (try dsimp only at hSw); go_simp; (try with_reducible rfl))); simp only [Act.put, List.setIfInBounds_toArray, List.set_cons_zero, List.set_cons_succ]
            refine wpAnyH_take (i := 19) (v := ?_) rfl (by kernel_rfl) (by kernel_rfl) (by kernel_rfl) (fun _ _ _ h => h) (Or.inl ⟨by kernel_rfl, ?_⟩) hHeld ?_; rotate_left; (focus (intro w hSw; (try dsimp only at hSw); go_simp; (try with_reducible rfl))); simp only [Act.put, List.setIfInBounds_toArray, List.set_cons_zero, List.set_cons_succ]
            refine wpAnyH_take (i := 20) (v := undef) rfl (by kernel_rfl) (by kernel_rfl) (by kernel_rfl) (fun _ _ _ h => h) (Or.inr ⟨by kernel_rfl, rfl⟩) hHeld ?_; simp only [Act.put, List.setIfInBounds_toArray, List.set_cons_zero, List.set_cons_succ]
            refine wpAnyH_take (i := 21) (v := undef) rfl (by kernel_rfl) (by kernel_rfl) (by kernel_rfl) (fun _ _ _ h => h) (Or.inr ⟨by kernel_rfl, rfl⟩) hHeld ?_; simp only [Act.put, List.setIfInBounds_toArray, List.set_cons_zero, List.set_cons_succ]
            refine wpAnyH_take (i := 22) (v := undef) rfl (by kernel_rfl) (by kernel_rfl) (by kernel_rfl) (fun _ _ _ h => h) (Or.inr ⟨by kernel_rfl, rfl⟩) hHeld ?_; simp only [Act.put, List.setIfInBounds_toArray, List.set_cons_zero, List.set_cons_succ]
            refine wpAnyH_take (i := 23) (v := undef) rfl (by kernel_rfl) (by kernel_rfl) (by kernel_rfl) (fun _ _ _ h => h) (Or.inr ⟨by kernel_rfl, rfl⟩) hHeld ?_; simp only [Act.put, List.setIfInBounds_toArray, List.set_cons_zero, List.set_cons_succ]
            refine wpAnyH_take (i := 24) (v := ?_) rfl (by kernel_rfl) (by kernel_rfl) (by kernel_rfl) (fun _ _ _ h => h) (Or.inl ⟨by kernel_rfl, ?_⟩) hHeld ?_; rotate_left; (focus (intro w hSw; (try dsimp only at hSw); go_simp; (try with_reducible rfl))); simp only [Act.put, List.setIfInBounds_toArray, List.set_cons_zero, List.set_cons_succ]
            refine wpAnyH_take (i := 25) (v := ?_) rfl (by kernel_rfl) (by kernel_rfl) (by kernel_rfl) (fun _ _ _ h => h) (Or.inl ⟨by kernel_rfl, ?_⟩) hHeld ?_; rotate_left; (focus (intro w hSw; (try dsimp only at hSw); go_simp; (try with_reducible rfl))); simp only [Act.put, List.setIfInBounds_toArray, List.set_cons_zero, List.set_cons_succ]
            refine wpAnyH_done (by kernel_rfl) ?_ _
            try simp only [List.getElem_toArray, List.getElem_cons_succ, List.getElem_cons_zero, Act.put, List.setIfInBounds_toArray, List.set_cons_zero, List.set_cons_succ]
            go_wp2
            go_ret
            exact ⟨ret_bool HD.out.symm, hbF⟩
        · have HD := Lib.hid (show decide (canI size ep ti tr co li ln) = false by simp only [decide_eq_false_iff_not]; exact fun h => hco h.2.2.2.1)
          have W0 := Lib.hid (within_any (size - 1) 31 w1)
          rw [decide_eq_true hs] at W0
          have W1 := Lib.hid (within_any ep 255 w1)
          rw [decide_eq_true he] at W1
          have W2 := Lib.hid (within_any ti 1125899906842624 w1)
          rw [decide_eq_true hti] at W2
          have W3 := Lib.hid (within_any co 32 w1)
          rw [decide_eq_false hco] at W3
          have hsI : -9223372036854775808 ≤ size - 1 ∧ size - 1 ≤ 9223372036854775807 := by omega
          clear hs he hti hco ht hl hk ht1 hl1 hk1 hT hT1 kR
          go_enter Tryd.func44, Tryd.ntmps44
          go_wp2_with fail
          refine W0.out.mono ?_
          rintro e w2 ⟨rfl, rfl⟩
          go_wp2_with fail
          refine W1.out.mono ?_
          rintro e w2 ⟨rfl, rfl⟩
          go_wp2_with fail
          refine W2.out.mono ?_
          rintro e w2 ⟨rfl, rfl⟩
          go_wp2_with fail
          refine W3.out.mono ?_
          rintro e w2 ⟨rfl, rfl⟩
          clear hw1
          go_wp2
          go_quiet (fail)
          have hb1 := below_drewN hb1 nq
          generalize w1.drewN nq = w2 at *
          go_wp2
          go_ret
          exact ⟨ret_bool HD.out.symm, hb1⟩
      · have HD := Lib.hid (show decide (canI size ep ti tr co li ln) = false by simp only [decide_eq_false_iff_not]; exact fun h => hti h.2.2.1)
        have W0 := Lib.hid (within_any (size - 1) 31 w1)
        rw [decide_eq_true hs] at W0
        have W1 := Lib.hid (within_any ep 255 w1)
        rw [decide_eq_true he] at W1
        have W2 := Lib.hid (within_any ti 1125899906842624 w1)
        rw [decide_eq_false hti] at W2
        have hsI : -9223372036854775808 ≤ size - 1 ∧ size - 1 ≤ 9223372036854775807 := by omega
        clear hs he hti ht hl hk ht1 hl1 hk1 hT hT1 kR
        go_enter Tryd.func44, Tryd.ntmps44
        go_wp2_with fail
        refine W0.out.mono ?_
        rintro e w2 ⟨rfl, rfl⟩
        go_wp2_with fail
        refine W1.out.mono ?_
        rintro e w2 ⟨rfl, rfl⟩
        go_wp2_with fail
        refine W2.out.mono ?_
        rintro e w2 ⟨rfl, rfl⟩
        clear hw1
        go_wp2
        go_quiet (fail)
        have hb1 := below_drewN hb1 nq
        generalize w1.drewN nq = w2 at *
        go_wp2
        go_ret
        exact ⟨ret_bool HD.out.symm, hb1⟩
    · have HD := Lib.hid (show decide (canI size ep ti tr co li ln) = false by simp only [decide_eq_false_iff_not]; exact fun h => he h.2.1)
      have W0 := Lib.hid (within_any (size - 1) 31 w1)
      rw [decide_eq_true hs] at W0
      have W1 := Lib.hid (within_any ep 255 w1)
      rw [decide_eq_false he] at W1
      have hsI : -9223372036854775808 ≤ size - 1 ∧ size - 1 ≤ 9223372036854775807 := by omega
      clear hs he ht hl hk ht1 hl1 hk1 hT hT1 kR
      go_enter Tryd.func44, Tryd.ntmps44
      go_wp2_with fail
      refine W0.out.mono ?_
      rintro e w2 ⟨rfl, rfl⟩
      go_wp2_with fail
      refine W1.out.mono ?_
      rintro e w2 ⟨rfl, rfl⟩
      clear hw1
      go_wp2
      go_quiet (fail)
      have hb1 := below_drewN hb1 nq
      generalize w1.drewN nq = w2 at *
      go_wp2
      go_ret
      exact ⟨ret_bool HD.out.symm, hb1⟩
  · have HD := Lib.hid (show decide (canI size ep ti tr co li ln) = false by simp only [decide_eq_false_iff_not]; exact fun h => hs h.1)
    have hx : decide (0 ≤ wrap64 (size - 1) ∧ wrap64 (size - 1) ≤ 31) = false := by simp only [decide_eq_false_iff_not, wrap64]; omega
    clear hs ht hl hk ht1 hl1 hk1 hT hT1 kR
    go_enter Tryd.func44, Tryd.ntmps44
    go_wp2_with fail
    refine (within_any _ 31 w1).mono ?_
    rw [hx]
    rintro e w2 ⟨rfl, rfl⟩
    clear hw1
    go_wp2
    go_quiet (fail)
    have hb1 := below_drewN hb1 nq
    generalize w1.drewN nq = w2 at *
    go_wp2
    go_ret
    exact ⟨ret_bool HD.out.symm, hb1⟩

end Go.Proofs.YtililoojjfcfgaaDoor

namespace Go.Proofs.YtililoojjfcfgaaDoor
open Go.RowKit
set_option linter.unusedVariables false

theorem rec6 {w : World} {g : Nat} {t : TypeId} {x0 x1 x2 x3 x4 x5 : Value} (k : Blk w g t #[x0, x1, x2, x3, x4, x5]) :
    w.cell? ⟨g, 0, none⟩ = some x0 ∧ w.cell? ⟨g, 1, none⟩ = some x1 ∧ w.cell? ⟨g, 2, none⟩ = some x2 ∧ w.cell? ⟨g, 3, none⟩ = some x3 ∧ w.cell? ⟨g, 4, none⟩ = some x4 ∧ w.cell? ⟨g, 5, none⟩ = some x5 := ⟨k.cell 0, k.cell 1, k.cell 2, k.cell 3, k.cell 4, k.cell 5⟩

/-- What the links read so far make behind bytes. -/
def encTo (ep ti : Int) (tr : List Int) (co : Int) (li : List Int) (ln : List (List Int)) (k : Nat) : List Int :=
  (((((uintN ep.toNat ++ uintN ti.toNat) ++ bytesI tr) ++ uintN co.toNat) ++ bytesI li) ++ (ln.take k).flatMap bytesI)
theorem encTo_all (ep ti : Int) (tr : List Int) (co : Int) (li : List Int) (ln : List (List Int)) : encTo ep ti tr co li ln ln.length = encI ep ti tr co li ln := by
  unfold encTo encI; rw [List.take_length]; simp
theorem encTo_succ (ep ti : Int) (tr : List Int) (co : Int) (li : List Int) (ln : List (List Int)) (k : Nat) (hk : k < ln.length) : encTo ep ti tr co li ln (k + 1) = encTo ep ti tr co li ln k ++ bytesI (ln.getD k []) := by
  unfold encTo
  rw [List.take_succ_eq_append_getElem hk, List.flatMap_append, List.getD_eq_getElem?_getD, List.getElem?_eq_getElem hk]
  simp
theorem bytesI_len (s : List Int) (h : s.length ≤ 4611686018427387904) : (bytesI s).length ≤ s.length + 9 := by
  have := (width_spec s.length h).1
  unfold bytesI uintN; rw [List.length_append, List.length_cons, beI_len]; omega
theorem uintN_len (n : Nat) (h : n ≤ 4611686018427387904) : (uintN n).length ≤ 9 := by
  have := (width_spec n h).1
  unfold uintN; rw [List.length_cons, beI_len]; omega
theorem links_le (ep : Int) : linksI ep ≤ 9 := by unfold linksI; exact Nat.le_trans (List.length_filter_le _ _) (by simp)
theorem flat_short (ln : List (List Int)) (h : ∀ x ∈ ln, x.length ≤ 32) : (ln.flatMap bytesI).length ≤ ln.length * 41 := by
  induction ln with
  | nil => simp
  | cons p ps ih =>
    have h1 := bytesI_len p (by have := h p (by simp); omega)
    have h0 := h p (by simp)
    have h2 := ih (fun q hq => h q (by simp [hq]))
    simp only [List.flatMap_cons, List.length_append, List.length_cons] at *; omega
theorem encTo_len {size ep ti co : Int} {tr li : List Int} {ln : List (List Int)} (h : canI size ep ti tr co li ln) (k : Nat) : (encTo ep ti tr co li ln k).length ≤ 1000 := by
  obtain ⟨hs, he, ht, hc, hx, hl, ha⟩ := h
  have h9 := links_le ep
  have b1 := uintN_len ep.toNat (by omega)
  have b2 := uintN_len ti.toNat (by omega)
  have b3 := bytesI_len tr (by omega)
  have b4 := uintN_len co.toNat (by omega)
  have b5 := bytesI_len li (by omega)
  have b6 := flat_short (ln.take k) (fun x hx => by have := ha x (List.mem_of_mem_take hx); omega)
  rw [List.length_take] at b6
  unfold encTo
  simp only [List.length_append]
  omega

def codeE (size ep ti : Int) (tr : List Int) (co : Int) (li : List Int) (ln : List (List Int)) : Int := if canI size ep ti tr co li ln then 0 else 1
def contE (size ep ti : Int) (tr : List Int) (co : Int) (li : List Int) (ln : List (List Int)) : List Int := if canI size ep ti tr co li ln then encI ep ti tr co li ln else []

set_option maxRecDepth 100000 in
set_option maxHeartbeats 4000000 in
theorem enc_any (size ep ti : Int) (tr : List Int) (co : Int) (li : List Int) (ln : List (List Int)) (v : Value) (w : World) (hz0 : -9223372036854775808 ≤ size) (hz1 : size ≤ 9223372036854775807) (hr : RecV w v ep ti tr co li ln) (hT : TzTab w) :
    Calls Tryd.prog 14 #[.int .i64 size, v] w fun e w' => ∃ x, e = .returned (.tuple #[x, .int .i64 (codeE size ep ti tr co li ln)]) ∧ Sl w' x ((contE size ep ti tr co li ln).map (Value.int .u8)) ∧ Below w.heap.size w w' := by
  obtain ⟨vt, vl, vk, rfl, ht, hl, hk⟩ := hr
  obtain ⟨ta, tn, tc, rfl⟩ := ht.val
  obtain ⟨la, lc, lcc, rfl⟩ := hl.val
  obtain ⟨ka, kc, rfl, hkc, hkm⟩ := hk.shape
  have hb1 : Below w.heap.size w (w.alloc (.cells #[.int .i64 ep, .int .i64 ti, .slice ta tn tc, .int .i64 co, .slice la lc lcc, .slice ka ln.length kc] 25)) := (Below.refl _ _).alloc (Nat.le_refl _) _
  have kR := Blk.new w 25 #[.int .i64 ep, .int .i64 ti, .slice ta tn tc, .int .i64 co, .slice la lc lcc, .slice ka ln.length kc]
  have ht1 := ht.below hb1 (Nat.le_refl _)
  have hl1 := hl.below hb1 (Nat.le_refl _)
  have hk1 := hk.below hb1 (Nat.le_refl _)
  have hT1 := hT.below hb1
  generalize hw1 : (w.alloc (.cells #[.int .i64 ep, .int .i64 ti, .slice ta tn tc, .int .i64 co, .slice la lc lcc, .slice ka ln.length kc] 25)) = w1 at *
  have HCN := Lib.hid (can_any size ep ti tr co li ln _ w1 hz0 hz1 ⟨_, _, _, rfl, ht1, hl1, hk1⟩ hT1)
  obtain ⟨c0, c1, c2, c3, c4, c5⟩ := rec6 kR
  by_cases hC : canI size ep ti tr co li ln
  · rw [decide_eq_true hC] at HCN
    have HE := Lib.hid (show codeE size ep ti tr co li ln = 0 ∧ contE size ep ti tr co li ln = encI ep ti tr co li ln from ⟨by unfold codeE; rw [if_pos hC], by unfold contE; rw [if_pos hC]⟩)
    have HLN := Lib.hid (encTo_len hC)
    have hep := hC.2.1
    have hti := hC.2.2.1
    have hco := hC.2.2.2.1
    have HHC := Lib.hid hC
    have HKK := Lib.hid hk
    clear ht hl hk hT hC
    go_enter Tryd.func14, Tryd.ntmps14
    go_wp2_with fail
    refine HCN.out.mono ?_
    rintro e w2 ⟨rfl, hb2⟩
    clear hw1 c0 c1 c2 c3 c4 c5
    have kR := kR.belowS hb2
    have ht1 := ht1.below hb2 (Nat.le_refl _)
    have hl1 := hl1.below hb2 (Nat.le_refl _)
    have hk1 := hk1.below hb2 (Nat.le_refl _)
    have hbr := hb1.trans (hb2.mono hb1.size)
    clear hb1 hb2 HCN hT1
    obtain ⟨c0, c1, c2, c3, c4, c5⟩ := rec6 kR
    have HU := Lib.hid (cuint_any (.slice none 0 0) [] ep w2 (by simp) (Sl.nil _) hep.1 (by omega))
    go_wp2_with fail
    refine HU.out.mono ?_
    rintro e w3 ⟨b3, rfl, ho3, hb3⟩
    have hs3 : Sl w3 b3 ((uintN ep.toNat).map (Value.int .u8)) := by simpa using Sl.of_owns ho3
    have hl0 := HLN.out 0
    have HL0 := Lib.hid hl0
    clear hl0 ho3 HU
    have kR := kR.belowS hb3
    have ht1 := ht1.below hb3 (Nat.le_refl _)
    have hl1 := hl1.below hb3 (Nat.le_refl _)
    have hk1 := hk1.below hb3 (Nat.le_refl _)
    have hbr := hbr.trans (hb3.mono hbr.size)
    clear hb3 c0 c1 c2 c3 c4 c5
    obtain ⟨c0, c1, c2, c3, c4, c5⟩ := rec6 kR
    have HA3 := Lib.hid (show (uintN ep.toNat).length ≤ 1000 by have := HL0.out; unfold encTo at this; simp only [List.length_append] at this ⊢; omega)
    have HU := Lib.hid (cuint_any b3 (uintN ep.toNat) ti w3 (Nat.le_trans HA3.out (by decide)) hs3 hti.1 (by omega))
    go_wp2_with fail
    refine HU.out.mono ?_
    rintro e w4 ⟨b4, rfl, ho4, hb4⟩
    have hs4 : Sl w4 b4 ((uintN ep.toNat ++ uintN ti.toNat).map (Value.int .u8)) := by exact Sl.of_owns ho4
    clear ho4 HU hs3
    have kR := kR.belowS hb4
    have ht1 := ht1.below hb4 (Nat.le_refl _)
    have hl1 := hl1.below hb4 (Nat.le_refl _)
    have hk1 := hk1.below hb4 (Nat.le_refl _)
    have hbr := hbr.trans (hb4.mono hbr.size)
    clear hb4 c0 c1 c2 c3 c4 c5
    obtain ⟨c0, c1, c2, c3, c4, c5⟩ := rec6 kR
    have HA4 := Lib.hid (show ((uintN ep.toNat ++ uintN ti.toNat)).length ≤ 1000 by have := HL0.out; unfold encTo at this; simp only [List.length_append] at this ⊢; omega)
    have HXL4 := Lib.hid (show tr.length ≤ 1000 by have h1 := HHC.out.1; have h2 := HHC.out.2.2.2.2.1; omega)
    have HU := Lib.hid (cbytes_any b4 ((uintN ep.toNat ++ uintN ti.toNat)) _ tr w4 (by have := HA4.out; have := HXL4.out; omega) hs4 ht1)
    go_wp2_with fail
    refine HU.out.mono ?_
    rintro e w5 ⟨b5, rfl, ho5, hb5⟩
    have hs5 : Sl w5 b5 (((uintN ep.toNat ++ uintN ti.toNat) ++ bytesI tr).map (Value.int .u8)) := by exact Sl.of_owns ho5
    clear ho5 HU hs4
    have kR := kR.belowS hb5
    have ht1 := ht1.below hb5 (Nat.le_refl _)
    have hl1 := hl1.below hb5 (Nat.le_refl _)
    have hk1 := hk1.below hb5 (Nat.le_refl _)
    have hbr := hbr.trans (hb5.mono hbr.size)
    clear hb5 c0 c1 c2 c3 c4 c5
    obtain ⟨c0, c1, c2, c3, c4, c5⟩ := rec6 kR
    have HA5 := Lib.hid (show (((uintN ep.toNat ++ uintN ti.toNat) ++ bytesI tr)).length ≤ 1000 by have := HL0.out; unfold encTo at this; simp only [List.length_append] at this ⊢; omega)
    have HU := Lib.hid (cuint_any b5 (((uintN ep.toNat ++ uintN ti.toNat) ++ bytesI tr)) co w5 (Nat.le_trans HA5.out (by decide)) hs5 hco.1 (by omega))
    go_wp2_with fail
    refine HU.out.mono ?_
    rintro e w6 ⟨b6, rfl, ho6, hb6⟩
    have hs6 : Sl w6 b6 ((((uintN ep.toNat ++ uintN ti.toNat) ++ bytesI tr) ++ uintN co.toNat).map (Value.int .u8)) := by exact Sl.of_owns ho6
    clear ho6 HU hs5
    have kR := kR.belowS hb6
    have ht1 := ht1.below hb6 (Nat.le_refl _)
    have hl1 := hl1.below hb6 (Nat.le_refl _)
    have hk1 := hk1.below hb6 (Nat.le_refl _)
    have hbr := hbr.trans (hb6.mono hbr.size)
    clear hb6 c0 c1 c2 c3 c4 c5
    obtain ⟨c0, c1, c2, c3, c4, c5⟩ := rec6 kR
    have HA6 := Lib.hid (show ((((uintN ep.toNat ++ uintN ti.toNat) ++ bytesI tr) ++ uintN co.toNat)).length ≤ 1000 by have := HL0.out; unfold encTo at this; simp only [List.length_append] at this ⊢; omega)
    have HXL6 := Lib.hid (show li.length ≤ 1000 by have h1 := HHC.out.1; have h2 := HHC.out.2.2.2.2.1; omega)
    have HU := Lib.hid (cbytes_any b6 ((((uintN ep.toNat ++ uintN ti.toNat) ++ bytesI tr) ++ uintN co.toNat)) _ li w6 (by have := HA6.out; have := HXL6.out; omega) hs6 hl1)
    go_wp2_with fail
    refine HU.out.mono ?_
    rintro e w7 ⟨b7, rfl, ho7, hb7⟩
    have hs7 : Sl w7 b7 (((((uintN ep.toNat ++ uintN ti.toNat) ++ bytesI tr) ++ uintN co.toNat) ++ bytesI li).map (Value.int .u8)) := by exact Sl.of_owns ho7
    clear ho7 HU hs6
    have kR := kR.belowS hb7
    have hbr := hbr.trans (hb7.mono hbr.size)
    clear hb7 c0 c1 c2 c3 c4 c5 ht1 hl1 hk1
    obtain ⟨c0, c1, c2, c3, c4, c5⟩ := rec6 kR
    have hs7' : Sl w7 b7 ((encTo ep ti tr co li ln 0).map (Value.int .u8)) := by
      have e : encTo ep ti tr co li ln 0 = ((((uintN ep.toNat ++ uintN ti.toNat) ++ bytesI tr) ++ uintN co.toNat) ++ bytesI li) := by unfold encTo; simp
      rw [e]; exact hs7
    clear hs7 c0 c1 c2 c3 c4 kR
    go_wp2
    go_loopw [6, 35] (fun b i wr => ∃ (k : Nat) (bv : Value), bv = b ∧ k ≤ ln.length ∧ i = .int .i64 k ∧ Sl wr bv ((encTo ep ti tr co li ln k).map (Value.int .u8)) ∧ Below w.heap.size w wr) (fun _ i _ => ln.length - (intOf i).toNat)
    case atStart => exact ⟨0, _, rfl, by omega, rfl, hs7', hbr⟩
    case round =>
      clear hs7' hbr
      obtain ⟨k, bv, rfl, hk, rfl, hsv, hbr⟩ := hrel
      obtain ⟨ba, bn, bc, rfl⟩ := hsv.val
      by_cases hlt : k < ln.length
      · have hkI : (k : Int) < (ln.length : Int) := by omega
        obtain ⟨b, off, rfl, hbl, u, hu, hsu⟩ := (HKK.out.below hbr (Nat.le_refl _)).at hlt
        have HST := Lib.hid (encTo_succ ep ti tr co li ln k hlt)
        have HLP := Lib.hid (show (ln.getD k []).length ≤ 1000 by
          rw [List.getD_eq_getElem?_getD, List.getElem?_eq_getElem hlt]
          have h1 := HHC.out.1
          have h2 := HHC.out.2.2.2.2.2.2 _ (List.getElem_mem hlt)
          simp only [Option.getD_some]; omega)
        have HLT := Lib.hid (HLN.out k)
        generalize ln.getD k [] = P at *
        obtain ⟨ua, un, uc, rfl⟩ := hsu.val
        have HU := Lib.hid (cbytes_any (.slice ba bn bc) (encTo ep ti tr co li ln k) (.slice ua un uc) P wr (by have h1 := HLT.out; have h2 := HLP.out; omega) hsv hsu)
        clear hsv hsu
        go_wp2_with fail
        refine HU.out.mono ?_
        rintro e w9 ⟨b9, rfl, ho9, hb9⟩
        have hs9 := Sl.of_owns ho9
        have hbr := hbr.trans (hb9.mono hbr.size)
        clear ho9 hb9 HU
        go_wp2
        exact ⟨⟨k + 1, b9, rfl, by omega, by go_num, by rw [HST.out]; exact hs9, hbr⟩, by simp [intOf]; omega⟩
      · obtain rfl : k = ln.length := by omega
        have hkI : ¬ (ln.length : Int) < (ln.length : Int) := by omega
        rw [encTo_all] at hsv
        go_wp2
        go_ret2
        rw [HE.out.1, HE.out.2]
        exact ⟨_, rfl, hsv, hbr⟩
  · rw [decide_eq_false hC] at HCN
    have HE := Lib.hid (show codeE size ep ti tr co li ln = 1 ∧ contE size ep ti tr co li ln = [] from ⟨by unfold codeE; rw [if_neg hC], by unfold contE; rw [if_neg hC]⟩)
    clear ht hl hk hT hC ht1 hl1 hk1 hT1
    go_enter Tryd.func14, Tryd.ntmps14
    go_wp2_with fail
    refine HCN.out.mono ?_
    rintro e w2 ⟨rfl, hb2⟩
    clear hw1
    have hbr := hb1.trans (hb2.mono hb1.size)
    go_wp2
    go_ret2
    rw [HE.out.1, HE.out.2]
    exact ⟨_, rfl, Sl.nil _, hbr⟩

end Go.Proofs.YtililoojjfcfgaaDoor
