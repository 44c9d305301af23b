/- Trees of signing keys: a hash is told; Public; New. -/
import Derived.Test.YtililoojjfcfgaaDoorMtsC
namespace Go.Proofs.YtililoojjfcfgaaDoor
open Go.RowKit
set_option linter.unusedVariables false

/-- Some keys of a seed: their hashes are reckoned, or not yet. -/
def MKB (w : World) (g n h : Nat) (seed : List Int) : Prop := ∃ sv lv, Sl w sv (seed.map (Value.int .u8)) ∧ Blk w g 82 (keyCells n h sv 1 0 lv) ∧ OLv w 0 lv (lvsI n seed h (h + 1))
def MK (w : World) (g n h : Nat) (seed : List Int) : Prop := MKB w g n h seed ∨ ∃ sv, Sl w sv (seed.map (Value.int .u8)) ∧ Blk w g 82 (keyCells n h sv 0 0 (.slice none 0 0))
theorem MKB.below {w w' : World} {g n h : Nat} {seed : List Int} (k : MKB w g n h seed) (hb : Below w.heap.size w w') : MKB w' g n h seed := by
  obtain ⟨sv, lv, h1, h2, h3⟩ := k
  exact ⟨sv, lv, h1.below hb (Nat.le_refl _), h2.belowS hb, h3.below hb⟩
theorem MK.below {w w' : World} {g n h : Nat} {seed : List Int} (k : MK w g n h seed) (hb : Below w.heap.size w w') : MK w' g n h seed := by
  rcases k with k | ⟨sv, h1, h2⟩
  · exact .inl (k.below hb)
  · exact .inr ⟨sv, h1.below hb (Nat.le_refl _), h2.belowS hb⟩
theorem MK.blk {w : World} {g n h : Nat} {seed : List Int} (k : MK w g n h seed) : ∃ sv d lv, isSlV sv ∧ isSlV lv ∧ Sl w sv (seed.map (Value.int .u8)) ∧ Blk w g 82 (keyCells n h sv d 0 lv) := by
  rcases k with ⟨sv, lv, h1, h2, h3⟩ | ⟨sv, h1, h2⟩
  · obtain ⟨a, m, c, e⟩ := h1.val
    obtain ⟨a2, c2, e2⟩ := h3.val
    exact ⟨sv, _, lv, ⟨a, m, c, e⟩, ⟨a2, _, c2, e2⟩, h1, h2⟩
  · obtain ⟨a, m, c, e⟩ := h1.val
    exact ⟨sv, _, _, ⟨a, m, c, e⟩, ⟨_, _, _, rfl⟩, h1, h2⟩

set_option maxRecDepth 100000 in
set_option maxHeartbeats 2000000 in
theorem once_any (n h : Nat) (g : Nat) (seed : List Int) (w : World) (hn : n ≤ 32) (hh : h ≤ 8) (hB : IsB seed) (hk : MK w g n h seed) (ht : Tabs w) :
    Calls Tryd.prog 124 #[.pointer (some ⟨g, 3, none⟩), .func (.func 125) #[.pointer (some ⟨g, 0, none⟩)] #[]] w fun e w' => e = .returned (.tuple #[]) ∧ MKB w' g n h seed ∧ w.grownBy w' (some g) := by
  have hnot : ∀ (x : Bool) (w : World), (Op.unary .not (.bool x)).run Tryd.prog w = .ok (.bool (!x)) w := fun _ _ => rfl
  rcases hk with hk | ⟨sv, hs, hk⟩
  · have HK := Lib.hid hk
    obtain ⟨sv, lv, h1, h2, h3⟩ := hk
    have c3 : w.cell? ⟨g, 3, none⟩ = some (.int .u32 1) := h2.cell 3
    have hl := run_call_load (P := Tryd.prog) Tryd.func161 (by kernel_rfl) (by kernel_rfl) (by kernel_rfl) .u32 (by kernel_rfl) c3
    clear h1 h2 h3
    go_enter Tryd.func124, Tryd.ntmps124
    go_wp2
    go_end0
    exact ⟨rfl, HK.out, World.grownBy.refl _ _⟩
  · have HS := Lib.hid (slow_build n h g seed sv w hn hh hB hk hs ht)
    have hsv : isSlV sv := by obtain ⟨a, m, c, e⟩ := hs.val; exact ⟨a, m, c, e⟩
    have HSS := Lib.hid (fun w' (q : w.grownBy w' (some g)) => hs.keepG hk (keys_noB hsv ⟨_, _, _, rfl⟩) q)
    have c3 : w.cell? ⟨g, 3, none⟩ = some (.int .u32 0) := hk.cell 3
    have hl := run_call_load (P := Tryd.prog) Tryd.func161 (by kernel_rfl) (by kernel_rfl) (by kernel_rfl) .u32 (by kernel_rfl) c3
    clear hk hs ht
    go_enter Tryd.func124, Tryd.ntmps124
    go_wp2_with (first | (go_at_call 153; refine HS.out.mono ?_; rintro e w2 ⟨rfl, lv, k2, hO2, hg2⟩) | (go_at_call 152; go_in))
    go_end0
    exact ⟨rfl, ⟨sv, lv, HSS.out _ hg2, k2, hO2⟩, hg2⟩

theorem mnone_any (g n h : Nat) (seed : List Int) (w : World) (hn : 1 ≤ n) (hk : MK w g n h seed) :
    Calls Tryd.prog 81 #[.pointer (some ⟨g, 0, none⟩)] w fun e w' => e = .returned (.bool false) ∧ w = w' := by
  obtain ⟨sv, d, lv, _, _, _, k⟩ := hk.blk
  have c0 : w.cell? ⟨g, 0, none⟩ = some (.int .i64 n) := k.cell 0
  have hn0 : ¬ n = 0 := by omega
  have hnI : ((n : Int) == 0) = false := by simp; omega
  clear k
  go_enter Tryd.func81, Tryd.ntmps81
  go_wp2
  go_ret
  exact ⟨rfl, rfl⟩

set_option maxRecDepth 100000 in
set_option maxHeartbeats 2000000 in
theorem at_any (n h : Nat) (g l p : Nat) (seed : List Int) (w : World) (hn : n ≤ 32) (hh : h ≤ 8) (hB : IsB seed) (hk : MK w g n h seed) (ht : Tabs w) (hl : l ≤ h) (hp : p < 2 ^ (h - l)) :
    Calls Tryd.prog 83 #[.pointer (some ⟨g, 0, none⟩), .int .i64 l, .int .i64 p] w fun e w' => ∃ x, e = .returned x ∧ Sl w' x (((lvI n seed h l).getD p []).map (Value.int .u8)) ∧ MKB w' g n h seed ∧ w.grownBy w' (some g) := by
  have hmf : ∀ (fn : Fn) (first cap : Array Value) (w : World), (Instr.makeFunc fn first cap).run Tryd.prog w = .ok (.func fn first cap) w := fun _ _ _ _ => rfl
  have HO := Lib.hid (once_any n h g seed w hn hh hB hk ht)
  clear hk ht
  go_enter Tryd.func83, Tryd.ntmps83
  go_wp2_with fail
  refine HO.out.mono ?_
  rintro e w2 ⟨rfl, hk2, hg2⟩
  have HK2 := Lib.hid hk2
  obtain ⟨sv, lv, h1, h2, h3⟩ := hk2
  obtain ⟨va, vc, rfl⟩ := h3.val
  rw [lvsI_len] at *
  obtain ⟨b, off, u, rfl, hb, hcu, hu⟩ := h3.at (k := l) (lvsI_get n seed h (h + 1) l (by omega))
  obtain ⟨ua, uc, rfl⟩ := hu.val
  have HLN := Lib.hid (lvI_len n seed h l)
  have HSH := Lib.hid (lvI_short n seed h l)
  obtain ⟨b2, off2, u2, rfl, hb2, hcu2, hu2⟩ := OSls.get hu (k := p) (by rw [HLN.out]; exact hp)
  have hxl := HSH.out _ (getD_mem (l := lvI n seed h l) (k := p) (by rw [HLN.out]; exact hp))
  rw [HLN.out] at *
  generalize hX : (lvI (n : Int) seed h l).getD p [] = X at *
  have HX := Lib.hid hX
  clear hX
  generalize 2 ^ (h - l) = M at *
  have c6 : w2.cell? ⟨g, 6, none⟩ = some (.slice (some ⟨b, off, none⟩) (h + 1) vc) := h2.cell 6
  have hlI : (l : Int) < (h : Int) + 1 := by omega
  have hlN : l < h + 1 := by omega
  have hpI : (p : Int) < (M : Int) := by omega
  obtain ⟨xa, xn, xc, rfl⟩ := hu2.val
  have HC := Lib.hid (sclone_any (.slice xa xn xc) X w2 (by omega) hu2)
  clear h1 h2 h3 hu hu2 hxl
  go_wp2_with fail
  refine HC.out.mono ?_
  rintro e w3 ⟨x, rfl, hx, hb3⟩
  go_wp2
  go_ret
  exact ⟨x, rfl, by rw [HX.out]; exact hx, HK2.out.below hb3, only_below hg2 hb3⟩


set_option maxRecDepth 100000 in
set_option maxHeartbeats 2000000 in
theorem public_any (n h : Nat) (g : Nat) (seed : List Int) (w : World) (hn0 : 1 ≤ n) (hn : n ≤ 32) (hh : h ≤ 8) (hB : IsB seed) (hk : MK w g n h seed) (ht : Tabs w) :
    Calls Tryd.prog 38 #[.pointer (some ⟨g, 0, none⟩)] w fun e w' => ∃ x, e = .returned x ∧ Sl w' x (((lvI n seed h h).getD 0 []).map (Value.int .u8)) ∧ MKB w' g n h seed ∧ w.grownBy w' (some g) := by
  have HN := Lib.hid (mnone_any g n h seed w hn0 hk)
  have HA := Lib.hid (at_any n h g h 0 seed w hn hh hB hk ht (Nat.le_refl _) (Nat.two_pow_pos _))
  obtain ⟨sv, d, lv, _, _, _, k⟩ := hk.blk
  have c1 : w.cell? ⟨g, 1, none⟩ = some (.int .i64 h) := k.cell 1
  clear k hk ht
  go_enter Tryd.func38, Tryd.ntmps38
  go_wp2_with fail
  refine HN.out.mono ?_
  rintro e w1 ⟨rfl, rfl⟩
  go_wp2_with fail
  refine HA.out.mono ?_
  rintro e w2 ⟨x, rfl, hx, hk2, hg2⟩
  go_wp2
  go_ret
  exact ⟨_, rfl, hx, hk2, hg2⟩

set_option maxRecDepth 100000 in
set_option maxHeartbeats 2000000 in
/-- New, where the arguments may be. -/
theorem mnew_ok (n h : Nat) (seed : List Int) (v : Value) (w : World) (hn0 : 1 ≤ n) (hn : n ≤ 32) (hh : h ≤ 8) (hl : seed.length ≤ 64) (hs : Sl w v (seed.map (Value.int .u8))) :
    Calls Tryd.prog 28 #[.int .i64 n, v, .int .i64 h] w fun e w' => ∃ g, e = .returned (.tuple #[.pointer (some ⟨g, 0, none⟩), .int .i64 0]) ∧ w.heap.size ≤ g ∧ MK w' g n h seed ∧ Below w.heap.size w w' := by
  obtain ⟨a, cap, rfl, hc, hm⟩ := hs.shape
  rw [List.length_map] at *
  have HM := Lib.hid (mcan_any n h w)
  rw [show mcanB (n : Int) (h : Int) = true from decide_eq_true (by omega)] at HM
  have HC := Lib.hid (sclone_any (.slice a seed.length cap) seed w (by omega) hs)
  have hlI : ¬ (64 : Int) < (seed.length : Int) := by omega
  clear hs
  go_enter Tryd.func28, Tryd.ntmps28
  go_wp2_with fail
  refine HM.out.mono ?_
  rintro e w1 ⟨rfl, rfl⟩
  go_wp2_with fail
  refine HC.out.mono ?_
  rintro e w2 ⟨x, rfl, hx, hb2⟩
  obtain ⟨xa, xn, xc, rfl⟩ := hx.val
  have hbA : Below w2.heap.size w2 (w2.alloc (.cells (keyCells n h (.slice xa xn xc) 0 0 (.slice none 0 0)) 82)) := (Below.refl _ _).alloc (Nat.le_refl _) _
  have kN := Blk.new w2 82 (keyCells n h (.slice xa xn xc) 0 0 (.slice none 0 0))
  have HE := Lib.hid (show w.heap.size ≤ w2.heap.size ∧ MK (w2.alloc (.cells (keyCells n h (.slice xa xn xc) 0 0 (.slice none 0 0)) 82)) w2.heap.size n h seed ∧ Below w.heap.size w (w2.alloc (.cells (keyCells n h (.slice xa xn xc) 0 0 (.slice none 0 0)) 82)) from ⟨hb2.size, .inr ⟨_, hx.below hbA (Nat.le_refl _), kN⟩, below_trans2 hb2 hbA⟩)
  clear hx hb2 hbA kN
  go_wp2
  go_ret2
  exact ⟨_, rfl, HE.out⟩

/-- New, where the arguments may not be. -/
theorem mnew_no (size h : Int) (seed : List Int) (v : Value) (w : World) (hno : ¬ (1 ≤ size ∧ size ≤ 32 ∧ 0 ≤ h ∧ h ≤ 8 ∧ seed.length ≤ 64)) (hs : Sl w v (seed.map (Value.int .u8))) :
    Calls Tryd.prog 28 #[.int .i64 size, v, .int .i64 h] w fun e w' => e = .returned (.tuple #[.pointer none, .int .i64 1]) ∧ w = w' := by
  obtain ⟨a, cap, rfl, hc, hm⟩ := hs.shape
  rw [List.length_map] at *
  have HM := Lib.hid (mcan_any size h w)
  by_cases hb : 1 ≤ size ∧ size ≤ 32 ∧ 0 ≤ h ∧ h ≤ 8
  · have hlI : (64 : Int) < (seed.length : Int) := by omega
    rw [show mcanB size h = true from decide_eq_true hb] at HM
    clear hs hno hb
    go_enter Tryd.func28, Tryd.ntmps28
    go_wp2_with fail
    refine HM.out.mono ?_
    rintro e w1 ⟨rfl, rfl⟩
    go_wp2
    go_ret2
    exact ⟨rfl, rfl⟩
  · rw [show mcanB size h = false from decide_eq_false hb] at HM
    clear hs hno hb
    go_enter Tryd.func28, Tryd.ntmps28
    go_wp2_with fail
    refine HM.out.mono ?_
    rintro e w1 ⟨rfl, rfl⟩
    go_wp2
    go_ret2
    exact ⟨rfl, rfl⟩

end Go.Proofs.YtililoojjfcfgaaDoor
