/- Trees of signing keys: the hashes are reckoned once; a hash is told; New, Public. -/
import Derived.Test.YtililoojjfcfgaaDoorMtsB
import Derived.Test.YtililoojjfcfgaaDoorOnce
namespace Go.Proofs.YtililoojjfcfgaaDoor
open Go.RowKit
set_option linter.unusedVariables false

set_option maxRecDepth 100000 in
set_option maxHeartbeats 4000000 in
theorem slow_build (n h : Nat) (g : Nat) (seed : List Int) (sv : Value) (w : World) (hn : n ≤ 32) (hh : h ≤ 8) (hB : IsB seed) (hk : Blk w g 82 (keyCells n h sv 0 0 (.slice none 0 0))) (hs : Sl w sv (seed.map (Value.int .u8))) (ht : Tabs w) :
    Calls Tryd.prog 153 #[.pointer (some ⟨g, 3, none⟩), .func (.func 125) #[.pointer (some ⟨g, 0, none⟩)] #[]] w fun e w' => e = .returned (.tuple #[]) ∧ ∃ lv, Blk w' g 82 (keyCells n h sv 1 0 lv) ∧ OLv w' 0 lv (lvsI n seed h (h + 1)) ∧ w.grownBy w' (some g) := by
  have c3 : w.cell? ⟨g, 3, none⟩ = some (.int .u32 0) := hk.cell 3
  have c4 : w.cell? ⟨g, 4, none⟩ = some (.int .i32 0) := hk.cell 4
  have f3 := hk.frozen 3
  have f4 := hk.frozen 4
  have k1 : Blk (w.setCell ⟨g, 4, none⟩ (.int .i32 1)) g 82 (keyCells n h sv 0 1 (.slice none 0 0)) := hk.set_ 4 _
  have hsv : isSlV sv := by obtain ⟨a, m, c, e⟩ := hs.val; exact ⟨a, m, c, e⟩
  have hg1 := set_onlyG w g 4 (.int .i32 1)
  have HB := Lib.hid (build_any n h g seed sv _ hn hh hB k1 (hs.keepG hk (keys_noB hsv ⟨_, _, _, rfl⟩) hg1) (ht.keepG hk (n := n) rfl hg1))
  have HG1 := Lib.hid hg1
  have HSV := Lib.hid hsv
  have c31 : (w.setCell ⟨g, 4, none⟩ (.int .i32 1)).cell? ⟨g, 3, none⟩ = some (.int .u32 0) := k1.cell 3
  have hl := run_call_load (P := Tryd.prog) Tryd.func161 (by kernel_rfl) (by kernel_rfl) (by kernel_rfl) .u32 (by kernel_rfl) c31
  have hnot : ∀ (x : Bool) (w : World), (Op.unary .not (.bool x)).run Tryd.prog w = .ok (.bool (!x)) w := fun _ _ => rfl
  clear hk hs ht hg1 hsv k1
  go_enter_defers Tryd.func153, Tryd.ntmps153
  go_wp2_with (go_at_call 162; refine (lock_free ⟨g, 4, none⟩ _ c4 f4).mono ?_; rintro e w' ⟨rfl, rfl⟩)
  generalize (w.setCell ⟨g, 4, none⟩ (.int .i32 1)) = w1 at *
  go_wp2_with (first | (go_at_call 125; refine HB.out.mono ?_; rintro e w2 ⟨rfl, lv, k2, hO2, hg2⟩) | (go_at_call 152; go_in))
  have q3 : w2.cell? ⟨g, 3, none⟩ = some (.int .u32 0) := k2.cell 3
  have z3 : w2.frozen? ⟨g, 3, none⟩ = false := k2.frozen 3
  have k3 : Blk (w2.drew.setCell ⟨g, 3, none⟩ (.int .u32 1)) g 82 (keyCells n h sv 1 1 lv) := k2.drew.set_ 3 _
  have q4 : (w2.drew.setCell ⟨g, 3, none⟩ (.int .u32 1)).cell? ⟨g, 4, none⟩ = some (.int .i32 1) := k3.cell 4
  have z4 : (w2.drew.setCell ⟨g, 3, none⟩ (.int .u32 1)).frozen? ⟨g, 4, none⟩ = false := k3.frozen 4
  have k4 : Blk ((w2.drew.setCell ⟨g, 3, none⟩ (.int .u32 1)).setCell ⟨g, 4, none⟩ (.int .i32 0)) g 82 (keyCells n h sv 1 0 lv) := k3.set_ 4 _
  have hlv : isSlV lv := by obtain ⟨a, c, e⟩ := hO2.val; exact ⟨a, _, c, e⟩
  have gA : w2.grownBy ((w2.drew.setCell ⟨g, 3, none⟩ (.int .u32 1)).setCell ⟨g, 4, none⟩ (.int .i32 0)) (some g) := only_setCell (p := ⟨g, 4, none⟩) (only_setCell (p := ⟨g, 3, none⟩) (only_drew (World.grownBy.refl w2 (some g))) (Or.inl rfl) _) (Or.inl rfl) _
  have hO4 := hO2.keepGk k2 (by decide) (by decide) (keys_noB HSV.out hlv) gA
  have hgE : w.grownBy ((w2.drew.setCell ⟨g, 3, none⟩ (.int .u32 1)).setCell ⟨g, 4, none⟩ (.int .i32 0)) (some g) := only_setCell (p := ⟨g, 4, none⟩) (only_setCell (p := ⟨g, 3, none⟩) (only_drew (HG1.out.trans hg2)) (Or.inl rfl) _) (Or.inl rfl) _
  have HE := Lib.hid (show ∃ lv, Blk ((w2.drew.setCell ⟨g, 3, none⟩ (.int .u32 1)).setCell ⟨g, 4, none⟩ (.int .i32 0)) g 82 (keyCells n h sv 1 0 lv) ∧ OLv ((w2.drew.setCell ⟨g, 3, none⟩ (.int .u32 1)).setCell ⟨g, 4, none⟩ (.int .i32 0)) 0 lv (lvsI n seed h (h + 1)) ∧ w.grownBy ((w2.drew.setCell ⟨g, 3, none⟩ (.int .u32 1)).setCell ⟨g, 4, none⟩ (.int .i32 0)) (some g) from ⟨lv, k4, hO4, hgE⟩)
  clear k3 k4 gA hO4 hgE hO2 hg2 k2
  first | go_end0 | go_wp2
  refine leaves_cons (f := 164) (args := #[.pointer (some ⟨g, 3, none⟩), .bool true]) (by simp) (by simp [go_sem]) ?_
  refine (store_deferred ⟨g, 3, none⟩ (.int .u32 0) .returning _ q3 z3).mono ?_
  rintro e u' w'' ⟨rfl, rfl, rfl⟩
  refine leaves_cons (f := 163) (args := #[.pointer (some ⟨g, 4, none⟩)]) (by simp [settle]) (by simp [go_sem]) ?_
  refine (unlock_deferred ⟨g, 4, none⟩ _ _ q4 z4).mono ?_
  rintro e u' w'' ⟨rfl, rfl, rfl⟩
  simp [Leaves, settle, results, Tryd.results153]
  exact HE.out

end Go.Proofs.YtililoojjfcfgaaDoor
