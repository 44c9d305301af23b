
/- A device: New, of noughts. -/
import Derived.Test.YtgfkejecigefbaaDoorDvB
import Derived.Laws.OwnMore
namespace Go.Proofs.YtgfkejecigefbaaDoor
open Go.RowKit
set_option linter.unusedVariables false

def zeroSC : Array Value := (Array.replicate 128 (Value.int .u8 0)).push (.bool false)
def zeroSec : Sec := { now := List.replicate 64 0, kept := List.replicate 64 0, waits := false }
theorem infoSec : (Tryd.prog.info? 87).map (fun i => (i.zero, i.size, i.bytes)) = some (some (.agg zeroSC), 129, 129) := by kernel_rfl
def madeRow (n : Nat) : Array Value := madeCells zeroSC (n * 129)
theorem run_make_secs (n : Nat) (hn : n ≤ 16384) (w : World) : (Instr.makeSlice 41 (.int .i64 n) (.int .i64 n)).run Tryd.prog w = .ok (.slice (some ⟨w.heap.size, 0, none⟩) n n) (w.alloc (.cells (madeRow n) 87)) := by
  obtain ⟨i0, hi, hz0, hz1, hz2⟩ := info_parts infoSec
  have hr := run_make (P := Tryd.prog) w 41 87 i0 _ Tryd.underlying41 hi hz0 .i64 .i64 n n (by omega) (Int.le_refl _) (by rw [hz2]; omega) (by omega)
  simp only [Int.toNat_natCast, hz1, Value.cells] at hr
  exact hr
theorem zeroSC_at {j : Nat} (h : j < 129) : zeroSC[j]! = if j < 128 then Value.int .u8 0 else .bool false := by
  unfold zeroSC
  by_cases q : j < 128
  · rw [if_pos q, getElem!_pos _ _ (by simp; omega), Array.getElem_push_lt (by simpa using q)]; simp
  · obtain rfl : j = 128 := by omega
    rw [if_neg q, getElem!_pos ((Array.replicate 128 (Value.int .u8 0)).push (.bool false)) 128 (by simp)]
    rw [Array.getElem_push, dif_neg (by simp)]
theorem madeRow_at {n i j : Nat} (hi : i < n) (hj : j < 129) : (madeRow n)[i * 129 + j]? = some (if j < 128 then Value.int .u8 0 else .bool false) := by
  have hlt : i * 129 + j < n * 129 := by omega
  unfold madeRow madeCells
  rw [Array.getElem?_map, Array.getElem?_eq_getElem (by simpa using hlt), Option.map_some, Array.getElem_range]
  rw [show (i * 129 + j) % zeroSC.size = j from by rw [show zeroSC.size = 129 from rfl]; omega, zeroSC_at hj]
theorem madeRow_row (w : World) (n : Nat) : SRow (w.alloc (.cells (madeRow n) 87)) w.heap.size (List.replicate n zeroSec) := by
  have k := Blk.new w 87 (madeRow n)
  have rep : ∀ j, j < 64 → ((List.replicate 64 (0 : Int)).map (Value.int .u8))[j]? = some (Value.int .u8 0) := fun j hj => by
    rw [List.getElem?_map, List.getElem?_replicate, if_pos hj]; rfl
  refine ⟨⟨_, k⟩, fun i s hs => ?_, fun s hs => ?_⟩
  · rw [List.getElem?_replicate] at hs
    split at hs
    · rename_i hi
      cases hs
      refine ⟨fun j v hv => ?_, fun j v hv => ?_, ?_⟩
      · have hj : j < 64 := by have := (List.getElem?_eq_some_iff.1 hv).1; simpa [zeroSec] using this
        have e := rep j hj
        rw [show (zeroSec.now.map (Value.int .u8))[j]? = some (Value.int .u8 0) from e] at hv
        cases hv
        rw [k.cell, madeRow_at hi (by omega), if_pos (by omega)]
      · have hj : j < 64 := by have := (List.getElem?_eq_some_iff.1 hv).1; simpa [zeroSec] using this
        have e := rep j hj
        rw [show (zeroSec.kept.map (Value.int .u8))[j]? = some (Value.int .u8 0) from e] at hv
        cases hv
        rw [k.cell, Nat.add_assoc, madeRow_at hi (by omega), if_pos (by omega)]
      · rw [k.cell, madeRow_at hi (by omega), if_neg (by omega)]; rfl
    · cases hs
  · obtain ⟨_, rfl⟩ := List.mem_replicate.1 hs
    exact ⟨by simp [zeroSec], by simp [zeroSec]⟩
theorem zeroSec_ok : zeroSec.ok := ⟨by simp [zeroSec], by simp [zeroSec], fun x hx => by obtain ⟨_, rfl⟩ := List.mem_replicate.1 hx; omega, fun x hx => by obtain ⟨_, rfl⟩ := List.mem_replicate.1 hx; omega, fun _ => rfl⟩

def mayD (n : Int) : Bool := decide (1 ≤ n ∧ n ≤ 16384)
theorem dmay_any (n : Int) (w : World) : Calls Tryd.prog 41 #[.int .i64 n] w fun e w' => e = .returned (.bool (mayD n)) ∧ w = w' := by
  by_cases h1 : 1 ≤ n
  · by_cases h2 : n ≤ 16384
    · have HE := Lib.hid (show mayD n = true from decide_eq_true ⟨h1, h2⟩)
      go_enter Tryd.func41, Tryd.ntmps41
      go_wp2
      go_ret
      exact ⟨ret_bool HE.out.symm, rfl⟩
    · have HE := Lib.hid (show mayD n = false from decide_eq_false fun q => h2 q.2)
      go_enter Tryd.func41, Tryd.ntmps41
      go_wp2
      go_ret
      exact ⟨ret_bool HE.out.symm, rfl⟩
  · have HE := Lib.hid (show mayD n = false from decide_eq_false fun q => h1 q.1)
    go_enter Tryd.func41, Tryd.ntmps41
    go_wp2
    go_ret
    exact ⟨ret_bool HE.out.symm, rfl⟩

def newD (n : Nat) : DSt := { l := List.replicate n zeroSec, dead := false, fused := false, burns := 0, changes := 0 }
set_option maxHeartbeats 400000 in
theorem dnew_ok (n : Nat) (w : World) (h1 : 1 ≤ n) (h2 : n ≤ 16384) :
    Calls Tryd.prog 18 #[.int .i64 n] w fun e w' => ∃ g b, e = .returned (.tuple #[.pointer (some ⟨g, 0, none⟩), .int .i64 0]) ∧ w.heap.size ≤ g ∧ w.heap.size ≤ b ∧ Dev w' g b (newD n) ∧ Below w.heap.size w w' := by
  have HM := Lib.hid (dmay_any n w)
  rw [show mayD n = true from decide_eq_true (by omega)] at HM
  have hmk := run_make_secs n h2
  have hb1 : Below w.heap.size w (w.alloc (.cells (madeRow n) 87)) := (Below.refl _ _).alloc (Nat.le_refl _) _
  have k1 := Blk.new (w.alloc (.cells (madeRow n) 87)) 43 #[.slice (some ⟨w.heap.size, 0, none⟩) n n, .bool false, .bool false, .int .i64 0, .int .i64 0]
  have hb2 := hb1.alloc hb1.size (.cells #[.slice (some ⟨w.heap.size, 0, none⟩) n n, .bool false, .bool false, .int .i64 0, .int .i64 0] 43)
  have hD : Dev ((w.alloc (.cells (madeRow n) 87)).alloc (.cells #[.slice (some ⟨w.heap.size, 0, none⟩) n n, .bool false, .bool false, .int .i64 0, .int .i64 0] 43)) (w.heap.size + 1) w.heap.size (newD n) := by
    refine ⟨⟨n, by simp [newD], by omega, ?_⟩, ?_, by simp [newD]; omega, fun s hs => ?_⟩
    · rw [World.size_alloc] at k1
      simpa [newD] using k1
    · exact (madeRow_row w n).keep (Below.heap_alloc _ _ _ (by simp))
    · obtain ⟨_, rfl⟩ := List.mem_replicate.1 (show s ∈ List.replicate n zeroSec from hs)
      exact zeroSec_ok
  have HD := Lib.hid hD
  have HB := Lib.hid hb2
  clear hb1 k1 hb2 hD
  go_enter Tryd.func18, Tryd.ntmps18
  go_wp2_with fail
  refine HM.out.mono ?_
  rintro e w1 ⟨rfl, rfl⟩
  go_wp2
  go_ret2
  exact ⟨_, _, rfl, by omega, Nat.le_refl _, HD.out, HB.out⟩
theorem dnew_no (n : Int) (w : World) (h : ¬ (1 ≤ n ∧ n ≤ 16384)) :
    Calls Tryd.prog 18 #[.int .i64 n] w fun e w' => e = .returned (.tuple #[.pointer none, .int .i64 1]) ∧ w = w' := by
  have HM := Lib.hid (dmay_any n w)
  rw [show mayD n = false from decide_eq_false h] at HM
  clear h
  go_enter Tryd.func18, Tryd.ntmps18
  go_wp2_with fail
  refine HM.out.mono ?_
  rintro e w1 ⟨rfl, rfl⟩
  go_wp2
  go_ret2
  exact ⟨rfl, rfl⟩

end Go.Proofs.YtgfkejecigefbaaDoor
