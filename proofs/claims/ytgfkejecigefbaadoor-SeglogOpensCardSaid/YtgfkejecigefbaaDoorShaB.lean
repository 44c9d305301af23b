
/- The walk of sha.scheduleOf. -/
import Derived.Test.YtgfkejecigefbaaDoorShaA
import Derived.Deep.OwnRows
import Derived.Deep.DeepCutAuto
import Derived.Deep.RegionHeld3
import Derived.BigRegion
namespace Go.Proofs.YtgfkejecigefbaaDoor
open Go.RowKit
set_option linter.unusedVariables false

/-- The schedule's first sixteen words, byte by byte. -/
def schedA (bs : List Int) : Nat → Nat → Int
  | 0, _ => 0
  | i + 1, j => if j = i / 4 then bits .or .u32 (schedA bs i (i / 4) * 256 % 4294967296) (bs.getD i 0) else schedA bs i j

theorem zero64 (i : Nat) (h : i < 64) : (#[.int .u32 0, .int .u32 0, .int .u32 0, .int .u32 0, .int .u32 0, .int .u32 0, .int .u32 0, .int .u32 0, .int .u32 0, .int .u32 0, .int .u32 0, .int .u32 0, .int .u32 0, .int .u32 0, .int .u32 0, .int .u32 0, .int .u32 0, .int .u32 0, .int .u32 0, .int .u32 0, .int .u32 0, .int .u32 0, .int .u32 0, .int .u32 0, .int .u32 0, .int .u32 0, .int .u32 0, .int .u32 0, .int .u32 0, .int .u32 0, .int .u32 0, .int .u32 0, .int .u32 0, .int .u32 0, .int .u32 0, .int .u32 0, .int .u32 0, .int .u32 0, .int .u32 0, .int .u32 0, .int .u32 0, .int .u32 0, .int .u32 0, .int .u32 0, .int .u32 0, .int .u32 0, .int .u32 0, .int .u32 0, .int .u32 0, .int .u32 0, .int .u32 0, .int .u32 0, .int .u32 0, .int .u32 0, .int .u32 0, .int .u32 0, .int .u32 0, .int .u32 0, .int .u32 0, .int .u32 0, .int .u32 0, .int .u32 0, .int .u32 0, .int .u32 0] : Array Value)[i]? = some (.int .u32 0) := by
  have e : (#[.int .u32 0, .int .u32 0, .int .u32 0, .int .u32 0, .int .u32 0, .int .u32 0, .int .u32 0, .int .u32 0, .int .u32 0, .int .u32 0, .int .u32 0, .int .u32 0, .int .u32 0, .int .u32 0, .int .u32 0, .int .u32 0, .int .u32 0, .int .u32 0, .int .u32 0, .int .u32 0, .int .u32 0, .int .u32 0, .int .u32 0, .int .u32 0, .int .u32 0, .int .u32 0, .int .u32 0, .int .u32 0, .int .u32 0, .int .u32 0, .int .u32 0, .int .u32 0, .int .u32 0, .int .u32 0, .int .u32 0, .int .u32 0, .int .u32 0, .int .u32 0, .int .u32 0, .int .u32 0, .int .u32 0, .int .u32 0, .int .u32 0, .int .u32 0, .int .u32 0, .int .u32 0, .int .u32 0, .int .u32 0, .int .u32 0, .int .u32 0, .int .u32 0, .int .u32 0, .int .u32 0, .int .u32 0, .int .u32 0, .int .u32 0, .int .u32 0, .int .u32 0, .int .u32 0, .int .u32 0, .int .u32 0, .int .u32 0, .int .u32 0, .int .u32 0] : Array Value) = Array.replicate 64 (.int .u32 0) := by rfl
  rw [e, Array.getElem?_replicate, if_pos h]

theorem schedA_bd (bs : List Int) (i j : Nat) : 0 ≤ schedA bs i j ∧ schedA bs i j ≤ 4294967295 := by
  induction i with
  | zero => simp [schedA]
  | succ i ih =>
    simp only [schedA]
    split
    · exact bits_u32_bd _ _ _
    · exact ih

/-- All sixty-four: those behind the first sixteen, one by one. -/
def schedB (bs : List Int) : Nat → Nat → Int
  | 0, j => schedA bs 64 j
  | k + 1, j => if 16 ≤ k ∧ j = k then (((gammaI (schedB bs k (k - 2)) 17 19 10 + schedB bs k (k - 7)) % 4294967296 + gammaI (schedB bs k (k - 15)) 7 18 3) % 4294967296 + schedB bs k (k - 16)) % 4294967296 else schedB bs k j

theorem schedB_bd (bs : List Int) (k j : Nat) : 0 ≤ schedB bs k j ∧ schedB bs k j ≤ 4294967295 := by
  induction k with
  | zero => exact schedA_bd _ _ _
  | succ k ih =>
    simp only [schedB]
    split
    · omega
    · exact ih

theorem schedB_succ (bs : List Int) (k : Nat) (h : 16 ≤ k) (j : Nat) : schedB bs (k + 1) j = if j = k then (((gammaI (schedB bs k (k - 2)) 17 19 10 + schedB bs k (k - 7)) % 4294967296 + gammaI (schedB bs k (k - 15)) 7 18 3) % 4294967296 + schedB bs k (k - 16)) % 4294967296 else schedB bs k j := by
  simp only [schedB, h, true_and]

theorem schedB_16 (bs : List Int) (k : Nat) (h : k ≤ 16) (j : Nat) : schedB bs k j = schedA bs 64 j := by
  induction k with
  | zero => rfl
  | succ k ih => simp only [schedB]; rw [if_neg (by omega)]; exact ih (by omega)

set_option maxHeartbeats 1000000 in
theorem sched_any (v : Value) (bs : List Int) (w : World) (hl : 64 ≤ bs.length) (hB : ∀ j, 0 ≤ bs.getD j 0 ∧ bs.getD j 0 ≤ 255) (hs : Sl w v (bs.map (Value.int .u8))) :
    Calls Tryd.prog 108 #[v] w fun e w' => e = .returned (.pointer (some ⟨w.heap.size, 0, none⟩)) ∧ w'.rowIs w.heap.size 158 64 (fun j => .int .u32 (schedB bs 64 j)) ∧ Below w.heap.size w w' := by
  obtain ⟨ad, cap, rfl, hcl, hcm⟩ : ∃ ad cap, v = .slice ad bs.length cap ∧ bs.length ≤ cap ∧ cap ≤ 9223372036854775807 := by
    obtain ⟨x, y, h1, h2, h3, _⟩ := hs
    simp only [List.length_map] at *
    exact ⟨x, y, h1, h2, h3⟩
  have h64 : 64 ≤ cap := by omega
  go_enter Tryd.func108, Tryd.ntmps108
  go_wp2
  have hb0 : Below w.heap.size w (w.alloc (.cells #[.int .u32 0, .int .u32 0, .int .u32 0, .int .u32 0, .int .u32 0, .int .u32 0, .int .u32 0, .int .u32 0, .int .u32 0, .int .u32 0, .int .u32 0, .int .u32 0, .int .u32 0, .int .u32 0, .int .u32 0, .int .u32 0, .int .u32 0, .int .u32 0, .int .u32 0, .int .u32 0, .int .u32 0, .int .u32 0, .int .u32 0, .int .u32 0, .int .u32 0, .int .u32 0, .int .u32 0, .int .u32 0, .int .u32 0, .int .u32 0, .int .u32 0, .int .u32 0, .int .u32 0, .int .u32 0, .int .u32 0, .int .u32 0, .int .u32 0, .int .u32 0, .int .u32 0, .int .u32 0, .int .u32 0, .int .u32 0, .int .u32 0, .int .u32 0, .int .u32 0, .int .u32 0, .int .u32 0, .int .u32 0, .int .u32 0, .int .u32 0, .int .u32 0, .int .u32 0, .int .u32 0, .int .u32 0, .int .u32 0, .int .u32 0, .int .u32 0, .int .u32 0, .int .u32 0, .int .u32 0, .int .u32 0, .int .u32 0, .int .u32 0, .int .u32 0] 158)) := (Below.refl _ _).alloc (Nat.le_refl _) _
  have hr0 : (w.alloc (.cells #[.int .u32 0, .int .u32 0, .int .u32 0, .int .u32 0, .int .u32 0, .int .u32 0, .int .u32 0, .int .u32 0, .int .u32 0, .int .u32 0, .int .u32 0, .int .u32 0, .int .u32 0, .int .u32 0, .int .u32 0, .int .u32 0, .int .u32 0, .int .u32 0, .int .u32 0, .int .u32 0, .int .u32 0, .int .u32 0, .int .u32 0, .int .u32 0, .int .u32 0, .int .u32 0, .int .u32 0, .int .u32 0, .int .u32 0, .int .u32 0, .int .u32 0, .int .u32 0, .int .u32 0, .int .u32 0, .int .u32 0, .int .u32 0, .int .u32 0, .int .u32 0, .int .u32 0, .int .u32 0, .int .u32 0, .int .u32 0, .int .u32 0, .int .u32 0, .int .u32 0, .int .u32 0, .int .u32 0, .int .u32 0, .int .u32 0, .int .u32 0, .int .u32 0, .int .u32 0, .int .u32 0, .int .u32 0, .int .u32 0, .int .u32 0, .int .u32 0, .int .u32 0, .int .u32 0, .int .u32 0, .int .u32 0, .int .u32 0, .int .u32 0, .int .u32 0] 158)).rowIs w.heap.size 158 64 (fun j => .int .u32 (schedA bs 0 j)) := World.rowIs_alloc w _ _ _ (fun i hi => zero64 i hi)
  generalize (w.alloc (.cells #[.int .u32 0, .int .u32 0, .int .u32 0, .int .u32 0, .int .u32 0, .int .u32 0, .int .u32 0, .int .u32 0, .int .u32 0, .int .u32 0, .int .u32 0, .int .u32 0, .int .u32 0, .int .u32 0, .int .u32 0, .int .u32 0, .int .u32 0, .int .u32 0, .int .u32 0, .int .u32 0, .int .u32 0, .int .u32 0, .int .u32 0, .int .u32 0, .int .u32 0, .int .u32 0, .int .u32 0, .int .u32 0, .int .u32 0, .int .u32 0, .int .u32 0, .int .u32 0, .int .u32 0, .int .u32 0, .int .u32 0, .int .u32 0, .int .u32 0, .int .u32 0, .int .u32 0, .int .u32 0, .int .u32 0, .int .u32 0, .int .u32 0, .int .u32 0, .int .u32 0, .int .u32 0, .int .u32 0, .int .u32 0, .int .u32 0, .int .u32 0, .int .u32 0, .int .u32 0, .int .u32 0, .int .u32 0, .int .u32 0, .int .u32 0, .int .u32 0, .int .u32 0, .int .u32 0, .int .u32 0, .int .u32 0, .int .u32 0, .int .u32 0, .int .u32 0] 158)) = w1 at hb0 hr0 ⊢
  go_loopw [10] (fun i wr => ∃ k : Nat, k ≤ 64 ∧ i = .int .i64 k ∧ wr.rowIs w.heap.size 158 64 (fun j => .int .u32 (schedA bs k j)) ∧ Below w.heap.size w wr) (fun i _ => 64 - (intOf i).toNat)
  case atStart => exact ⟨0, by omega, rfl, hr0, hb0⟩
  case round =>
    clear hr0 hb0
    obtain ⟨k, hk, rfl, hr, hbr⟩ := hrel
    have hsz := hbr.size
    by_cases hlt : k < 64
    · obtain ⟨b, off, rfl, hbb, hx⟩ := hs.ints (k := k) (by omega)
      have hx1 : wr.cell? ⟨b, off + k, none⟩ = some (.int .u8 (bs.getD k 0)) := by rw [hbr.cell (p := ⟨b, off + k, none⟩) hbb]; exact hx k (by omega)
      have hxb := hB k
      have hc1 : wr.cell? ⟨w.heap.size, k / 4, none⟩ = some (.int .u32 (schedA bs k (k / 4))) := hr.cell (by omega)
      have hfz : wr.frozen? ⟨w.heap.size, k / 4, none⟩ = false := hr.frozen _
      have hsb := schedA_bd bs k (k / 4)
      generalize hX : bs.getD k 0 = X at hx1 hxb
      generalize hS : schedA bs k (k / 4) = S at hc1 hsb
      have HX := Lib.hid hX
      have HS := Lib.hid hS
      clear hx hX hS
      go_wp2
      go_roundw
      case rel =>
        refine ⟨k + 1, by omega, by go_num, (hr.set (k / 4) _).congr fun j hj => ?_, hbr.setCell (Nat.le_refl _) _⟩
        simp only [schedA]
        rw [HX.out, HS.out]
        split <;> rfl
      case measure => simp [intOf]; omega
    · have e64 : k = 64 := by omega
      rw [e64] at hr
      clear e64
      go_wp2
      have hr1 : wr.rowIs w.heap.size 158 64 (fun j => .int .u32 (schedB bs 16 j)) := hr.congr fun j _ => by rw [schedB_16 bs 16 (by omega)]
      clear hr
      obtain ⟨wo, rfl⟩ : ∃ wo : World, wo = wr := ⟨_, rfl⟩
      go_loopw [6] (fun i wr => ∃ k : Nat, 16 ≤ k ∧ k ≤ 64 ∧ i = .int .i64 k ∧ wr.rowIs w.heap.size 158 64 (fun j => .int .u32 (schedB bs k j)) ∧ Below w.heap.size w wr) (fun i _ => 64 - (intOf i).toNat)
      case atStart => exact ⟨16, by omega, by omega, rfl, hr1, hbr⟩
      case round =>
        clear hr1 hbr hsz
        obtain ⟨k, hk0, hk, rfl, hr, hbr⟩ := hrel
        have hsz := hbr.size
        by_cases hlt : k < 64
        · obtain ⟨j1, e1⟩ : ∃ j, j = k - 2 := ⟨_, rfl⟩
          obtain ⟨j2, e2⟩ : ∃ j, j = k - 7 := ⟨_, rfl⟩
          obtain ⟨j3, e3⟩ : ∃ j, j = k - 15 := ⟨_, rfl⟩
          obtain ⟨j4, e4⟩ : ∃ j, j = k - 16 := ⟨_, rfl⟩
          have HS := Lib.hid (schedB_succ bs k hk0)
          rw [← e1, ← e2, ← e3, ← e4] at HS
          have c1 : wr.cell? ⟨w.heap.size, j1, none⟩ = some (.int .u32 (schedB bs k j1)) := hr.cell (by omega)
          have c2 : wr.cell? ⟨w.heap.size, j2, none⟩ = some (.int .u32 (schedB bs k j2)) := hr.cell (by omega)
          have c3 : wr.cell? ⟨w.heap.size, j3, none⟩ = some (.int .u32 (schedB bs k j3)) := hr.cell (by omega)
          have c4 : wr.cell? ⟨w.heap.size, j4, none⟩ = some (.int .u32 (schedB bs k j4)) := hr.cell (by omega)
          have c0 : wr.cell? ⟨w.heap.size, k, none⟩ = some (.int .u32 (schedB bs k k)) := hr.cell (by omega)
          have hfz : wr.frozen? ⟨w.heap.size, k, none⟩ = false := hr.frozen _
          have b1 := schedB_bd bs k j1
          have b2 := schedB_bd bs k j2
          have b3 := schedB_bd bs k j3
          have b4 := schedB_bd bs k j4
          generalize schedB bs k k = x0 at c0
          generalize schedB bs k j1 = x1 at c1 b1 HS
          generalize schedB bs k j2 = x2 at c2 b2 HS
          generalize schedB bs k j3 = x3 at c3 b3 HS
          generalize schedB bs k j4 = x4 at c4 b4 HS
          have w1 : IntKind.i64.wrap ((k : Int) - 2) = (j1 : Int) := by rw [IntKind.wrap_i64]; omega
          have w2 : IntKind.i64.wrap ((k : Int) - 7) = (j2 : Int) := by rw [IntKind.wrap_i64]; omega
          have w3 : IntKind.i64.wrap ((k : Int) - 15) = (j3 : Int) := by rw [IntKind.wrap_i64]; omega
          have w4 : IntKind.i64.wrap ((k : Int) - 16) = (j4 : Int) := by rw [IntKind.wrap_i64]; omega
          have l1 : (j1 : Int) < 64 := by omega
          have l2 : (j2 : Int) < 64 := by omega
          have l3 : (j3 : Int) < 64 := by omega
          have l4 : (j4 : Int) < 64 := by omega
          have l0 : (k : Int) < 64 := by omega
          have m1 : ¬ j1 = k := by omega
          have m2 : ¬ j2 = k := by omega
          have m3 : ¬ j3 = k := by omega
          have m4 : ¬ j4 = k := by omega
          clear e1 e2 e3 e4
          go_wp2
          go_region_held3 (fun w' => w'.cell? ⟨w.heap.size, j1, none⟩ = some (.int .u32 x1) ∧ w'.cell? ⟨w.heap.size, j2, none⟩ = some (.int .u32 x2) ∧ w'.cell? ⟨w.heap.size, j3, none⟩ = some (.int .u32 x3) ∧ w'.cell? ⟨w.heap.size, j4, none⟩ = some (.int .u32 x4)) (first | exact ⟨c1, c2, c3, c4⟩ | exact ⟨(far_cell m1).trans c1, (far_cell m2).trans c2, (far_cell m3).trans c3, (far_cell m4).trans c4⟩ | go_keep)
            (first | (go_at_call 124; refine (gamma_any _ _ _ _ (by omega) (by omega) (by omega) (by omega) (by omega) (by omega) (by omega) (by omega) _).mono ?_; rintro e w1 ⟨rfl, n1, rfl⟩))
          go_wp2
          go_roundw
          case rel =>
            refine ⟨k + 1, by omega, by omega, by go_num, ?_, (below_drewN hbr _).setCell (Nat.le_refl _) _⟩
            refine World.rowIs.congr (World.rowIs.set (w := wr.drewN _) hr k _) fun j hj => ?_
            rw [HS.out]
            split <;> simp
          case measure => simp [intOf]; omega
        · obtain rfl : k = 64 := by omega
          go_wp2
          go_ret
          exact ⟨rfl, hr, hbr⟩

end Go.Proofs.YtgfkejecigefbaaDoor
