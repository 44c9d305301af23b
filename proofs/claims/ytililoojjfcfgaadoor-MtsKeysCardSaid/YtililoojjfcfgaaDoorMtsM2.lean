/- Trees of signing keys: the hashes are reckoned once; a hash is told; New, Public. Trees of signing keys: a hash is told; Public; New. Trees of signing keys: the law's awake; keys that no call made. -/
import Derived.Test.YtililoojjfcfgaaDoorMtsM1
import Derived.Test.YtililoojjfcfgaaDoorOnce
import Derived.Test.YtililoojjfcfgaaDoorSig1
namespace Go.Proofs.YtililoojjfcfgaaDoor
open Go.RowKit
set_option linter.unusedVariables false

set_option maxRecDepth 100000 in
set_option maxHeartbeats 4000000 in
theorem slow_build (n h : Nat) (g : Nat) (seed : List Int) (sv : Value) (w : World) (hn : n ≤ 32) (hh : h ≤ 8) (hB : IsB seed) (hk : Blk w g 82 (keyCells n h sv 0 0 (.slice none 0 0))) (hs : Sl w sv (seed.map (Value.int .u8))) (ht : Tabs w) :
    Calls Tryd.prog 153 #[.pointer (some ⟨g, 3, none⟩), .func (.func 125) #[.pointer (some ⟨g, 0, none⟩)] #[]] w fun e w' => e = .returned (.tuple #[]) ∧ ∃ lv, Blk w' g 82 (keyCells n h sv 1 0 lv) ∧ OLv w' 0 lv (lvsI n seed h (h + 1)) ∧ w.grownBy w' (some g) := by
  have c3 : w.cell? ⟨g, 3, none⟩ = some (.int .u32 0) := hk.cell 3
  have c4 : w.cell? ⟨g, 4, none⟩ = some (.int .i32 0) := hk.cell 4
  have f3 := hk.frozen 3
  have f4 := hk.frozen 4
  have k1 : Blk (w.setCell ⟨g, 4, none⟩ (.int .i32 1)) g 82 (keyCells n h sv 0 1 (.slice none 0 0)) := hk.set_ 4 _
  have hsv : isSlV sv := by obtain ⟨a, m, c, e⟩ := hs.val; exact ⟨a, m, c, e⟩
  have hg1 := set_onlyG w g 4 (.int .i32 1)
  have HB := Lib.hid (build_any n h g seed sv _ hn hh hB k1 (hs.keepG hk (keys_noB hsv ⟨_, _, _, rfl⟩) hg1) (ht.keepG hk (n := n) rfl hg1))
  have HG1 := Lib.hid hg1
  have HSV := Lib.hid hsv
  have c31 : (w.setCell ⟨g, 4, none⟩ (.int .i32 1)).cell? ⟨g, 3, none⟩ = some (.int .u32 0) := k1.cell 3
  have hl := run_call_load (P := Tryd.prog) Tryd.func161 (by kernel_rfl) (by kernel_rfl) (by kernel_rfl) .u32 (by kernel_rfl) c31
  have hnot : ∀ (x : Bool) (w : World), (Op.unary .not (.bool x)).run Tryd.prog w = .ok (.bool (!x)) w := fun _ _ => rfl
  clear hk hs ht hg1 hsv k1
  go_enter_defers Tryd.func153, Tryd.ntmps153
  go_wp2_with (go_at_call 162; refine (lock_free ⟨g, 4, none⟩ _ c4 f4).mono ?_; rintro e w' ⟨rfl, rfl⟩)
  generalize (w.setCell ⟨g, 4, none⟩ (.int .i32 1)) = w1 at *
  go_wp2_with (first | (go_at_call 125; refine HB.out.mono ?_; rintro e w2 ⟨rfl, lv, k2, hO2, hg2⟩) | (go_at_call 152; go_in))
  have q3 : w2.cell? ⟨g, 3, none⟩ = some (.int .u32 0) := k2.cell 3
  have z3 : w2.frozen? ⟨g, 3, none⟩ = false := k2.frozen 3
  have k3 : Blk (w2.drew.setCell ⟨g, 3, none⟩ (.int .u32 1)) g 82 (keyCells n h sv 1 1 lv) := k2.drew.set_ 3 _
  have q4 : (w2.drew.setCell ⟨g, 3, none⟩ (.int .u32 1)).cell? ⟨g, 4, none⟩ = some (.int .i32 1) := k3.cell 4
  have z4 : (w2.drew.setCell ⟨g, 3, none⟩ (.int .u32 1)).frozen? ⟨g, 4, none⟩ = false := k3.frozen 4
  have k4 : Blk ((w2.drew.setCell ⟨g, 3, none⟩ (.int .u32 1)).setCell ⟨g, 4, none⟩ (.int .i32 0)) g 82 (keyCells n h sv 1 0 lv) := k3.set_ 4 _
  have hlv : isSlV lv := by obtain ⟨a, c, e⟩ := hO2.val; exact ⟨a, _, c, e⟩
  have gA : w2.grownBy ((w2.drew.setCell ⟨g, 3, none⟩ (.int .u32 1)).setCell ⟨g, 4, none⟩ (.int .i32 0)) (some g) := only_setCell (p := ⟨g, 4, none⟩) (only_setCell (p := ⟨g, 3, none⟩) (only_drew (World.grownBy.refl w2 (some g))) (Or.inl rfl) _) (Or.inl rfl) _
  have hO4 := hO2.keepGk k2 (by decide) (by decide) (keys_noB HSV.out hlv) gA
  have hgE : w.grownBy ((w2.drew.setCell ⟨g, 3, none⟩ (.int .u32 1)).setCell ⟨g, 4, none⟩ (.int .i32 0)) (some g) := only_setCell (p := ⟨g, 4, none⟩) (only_setCell (p := ⟨g, 3, none⟩) (only_drew (HG1.out.trans hg2)) (Or.inl rfl) _) (Or.inl rfl) _
  have HE := Lib.hid (show ∃ lv, Blk ((w2.drew.setCell ⟨g, 3, none⟩ (.int .u32 1)).setCell ⟨g, 4, none⟩ (.int .i32 0)) g 82 (keyCells n h sv 1 0 lv) ∧ OLv ((w2.drew.setCell ⟨g, 3, none⟩ (.int .u32 1)).setCell ⟨g, 4, none⟩ (.int .i32 0)) 0 lv (lvsI n seed h (h + 1)) ∧ w.grownBy ((w2.drew.setCell ⟨g, 3, none⟩ (.int .u32 1)).setCell ⟨g, 4, none⟩ (.int .i32 0)) (some g) from ⟨lv, k4, hO4, hgE⟩)
  clear k3 k4 gA hO4 hgE hO2 hg2 k2
  first | go_end0 | go_wp2
  refine leaves_cons (f := 164) (args := #[.pointer (some ⟨g, 3, none⟩), .bool true]) (by simp) (by simp [go_sem]) ?_
  refine (store_deferred ⟨g, 3, none⟩ (.int .u32 0) .returning _ q3 z3).mono ?_
  rintro e u' w'' ⟨rfl, rfl, rfl⟩
  refine leaves_cons (f := 163) (args := #[.pointer (some ⟨g, 4, none⟩)]) (by simp [settle]) (by simp [go_sem]) ?_
  refine (unlock_deferred ⟨g, 4, none⟩ _ _ q4 z4).mono ?_
  rintro e u' w'' ⟨rfl, rfl, rfl⟩
  simp [Leaves, settle, results, Tryd.results153]
  exact HE.out

end Go.Proofs.YtililoojjfcfgaaDoor

namespace Go.Proofs.YtililoojjfcfgaaDoor
open Go.RowKit
set_option linter.unusedVariables false

/-- Some keys of a seed: their hashes are reckoned, or not yet. -/
def MKB (w : World) (g n h : Nat) (seed : List Int) : Prop := ∃ sv lv, Sl w sv (seed.map (Value.int .u8)) ∧ Blk w g 82 (keyCells n h sv 1 0 lv) ∧ OLv w 0 lv (lvsI n seed h (h + 1))
def MK (w : World) (g n h : Nat) (seed : List Int) : Prop := MKB w g n h seed ∨ ∃ sv, Sl w sv (seed.map (Value.int .u8)) ∧ Blk w g 82 (keyCells n h sv 0 0 (.slice none 0 0))
theorem MKB.below {w w' : World} {g n h : Nat} {seed : List Int} (k : MKB w g n h seed) (hb : Below w.heap.size w w') : MKB w' g n h seed := by
  obtain ⟨sv, lv, h1, h2, h3⟩ := k
  exact ⟨sv, lv, h1.below hb (Nat.le_refl _), h2.belowS hb, h3.below hb⟩
theorem MK.below {w w' : World} {g n h : Nat} {seed : List Int} (k : MK w g n h seed) (hb : Below w.heap.size w w') : MK w' g n h seed := by
  rcases k with k | ⟨sv, h1, h2⟩
  · exact .inl (k.below hb)
  · exact .inr ⟨sv, h1.below hb (Nat.le_refl _), h2.belowS hb⟩
theorem MK.blk {w : World} {g n h : Nat} {seed : List Int} (k : MK w g n h seed) : ∃ sv d lv, isSlV sv ∧ isSlV lv ∧ Sl w sv (seed.map (Value.int .u8)) ∧ Blk w g 82 (keyCells n h sv d 0 lv) := by
  rcases k with ⟨sv, lv, h1, h2, h3⟩ | ⟨sv, h1, h2⟩
  · obtain ⟨a, m, c, e⟩ := h1.val
    obtain ⟨a2, c2, e2⟩ := h3.val
    exact ⟨sv, _, lv, ⟨a, m, c, e⟩, ⟨a2, _, c2, e2⟩, h1, h2⟩
  · obtain ⟨a, m, c, e⟩ := h1.val
    exact ⟨sv, _, _, ⟨a, m, c, e⟩, ⟨_, _, _, rfl⟩, h1, h2⟩

set_option maxRecDepth 100000 in
set_option maxHeartbeats 2000000 in
theorem once_any (n h : Nat) (g : Nat) (seed : List Int) (w : World) (hn : n ≤ 32) (hh : h ≤ 8) (hB : IsB seed) (hk : MK w g n h seed) (ht : Tabs w) :
    Calls Tryd.prog 124 #[.pointer (some ⟨g, 3, none⟩), .func (.func 125) #[.pointer (some ⟨g, 0, none⟩)] #[]] w fun e w' => e = .returned (.tuple #[]) ∧ MKB w' g n h seed ∧ w.grownBy w' (some g) := by
  have hnot : ∀ (x : Bool) (w : World), (Op.unary .not (.bool x)).run Tryd.prog w = .ok (.bool (!x)) w := fun _ _ => rfl
  rcases hk with hk | ⟨sv, hs, hk⟩
  · have HK := Lib.hid hk
    obtain ⟨sv, lv, h1, h2, h3⟩ := hk
    have c3 : w.cell? ⟨g, 3, none⟩ = some (.int .u32 1) := h2.cell 3
    have hl := run_call_load (P := Tryd.prog) Tryd.func161 (by kernel_rfl) (by kernel_rfl) (by kernel_rfl) .u32 (by kernel_rfl) c3
    clear h1 h2 h3
    go_enter Tryd.func124, Tryd.ntmps124
    go_wp2
    go_end0
    exact ⟨rfl, HK.out, World.grownBy.refl _ _⟩
  · have HS := Lib.hid (slow_build n h g seed sv w hn hh hB hk hs ht)
    have hsv : isSlV sv := by obtain ⟨a, m, c, e⟩ := hs.val; exact ⟨a, m, c, e⟩
    have HSS := Lib.hid (fun w' (q : w.grownBy w' (some g)) => hs.keepG hk (keys_noB hsv ⟨_, _, _, rfl⟩) q)
    have c3 : w.cell? ⟨g, 3, none⟩ = some (.int .u32 0) := hk.cell 3
    have hl := run_call_load (P := Tryd.prog) Tryd.func161 (by kernel_rfl) (by kernel_rfl) (by kernel_rfl) .u32 (by kernel_rfl) c3
    clear hk hs ht
    go_enter Tryd.func124, Tryd.ntmps124
    go_wp2_with (first | (go_at_call 153; refine HS.out.mono ?_; rintro e w2 ⟨rfl, lv, k2, hO2, hg2⟩) | (go_at_call 152; go_in))
    go_end0
    exact ⟨rfl, ⟨sv, lv, HSS.out _ hg2, k2, hO2⟩, hg2⟩

theorem mnone_any (g n h : Nat) (seed : List Int) (w : World) (hn : 1 ≤ n) (hk : MK w g n h seed) :
    Calls Tryd.prog 81 #[.pointer (some ⟨g, 0, none⟩)] w fun e w' => e = .returned (.bool false) ∧ w = w' := by
  obtain ⟨sv, d, lv, _, _, _, k⟩ := hk.blk
  have c0 : w.cell? ⟨g, 0, none⟩ = some (.int .i64 n) := k.cell 0
  have hn0 : ¬ n = 0 := by omega
  have hnI : ((n : Int) == 0) = false := by simp; omega
  clear k
  go_enter Tryd.func81, Tryd.ntmps81
  go_wp2
  go_ret
  exact ⟨rfl, rfl⟩

set_option maxRecDepth 100000 in
set_option maxHeartbeats 2000000 in
theorem at_any (n h : Nat) (g l p : Nat) (seed : List Int) (w : World) (hn : n ≤ 32) (hh : h ≤ 8) (hB : IsB seed) (hk : MK w g n h seed) (ht : Tabs w) (hl : l ≤ h) (hp : p < 2 ^ (h - l)) :
    Calls Tryd.prog 83 #[.pointer (some ⟨g, 0, none⟩), .int .i64 l, .int .i64 p] w fun e w' => ∃ x, e = .returned x ∧ Sl w' x (((lvI n seed h l).getD p []).map (Value.int .u8)) ∧ MKB w' g n h seed ∧ w.grownBy w' (some g) := by
  have hmf : ∀ (fn : Fn) (first cap : Array Value) (w : World), (Instr.makeFunc fn first cap).run Tryd.prog w = .ok (.func fn first cap) w := fun _ _ _ _ => rfl
  have HO := Lib.hid (once_any n h g seed w hn hh hB hk ht)
  clear hk ht
  go_enter Tryd.func83, Tryd.ntmps83
  go_wp2_with fail
  refine HO.out.mono ?_
  rintro e w2 ⟨rfl, hk2, hg2⟩
  have HK2 := Lib.hid hk2
  obtain ⟨sv, lv, h1, h2, h3⟩ := hk2
  obtain ⟨va, vc, rfl⟩ := h3.val
  rw [lvsI_len] at *
  obtain ⟨b, off, u, rfl, hb, hcu, hu⟩ := h3.at (k := l) (lvsI_get n seed h (h + 1) l (by omega))
  obtain ⟨ua, uc, rfl⟩ := hu.val
  have HLN := Lib.hid (lvI_len n seed h l)
  have HSH := Lib.hid (lvI_short n seed h l)
  obtain ⟨b2, off2, u2, rfl, hb2, hcu2, hu2⟩ := OSls.get hu (k := p) (by rw [HLN.out]; exact hp)
  have hxl := HSH.out _ (getD_mem (l := lvI n seed h l) (k := p) (by rw [HLN.out]; exact hp))
  rw [HLN.out] at *
  generalize hX : (lvI (n : Int) seed h l).getD p [] = X at *
  have HX := Lib.hid hX
  clear hX
  generalize 2 ^ (h - l) = M at *
  have c6 : w2.cell? ⟨g, 6, none⟩ = some (.slice (some ⟨b, off, none⟩) (h + 1) vc) := h2.cell 6
  have hlI : (l : Int) < (h : Int) + 1 := by omega
  have hlN : l < h + 1 := by omega
  have hpI : (p : Int) < (M : Int) := by omega
  obtain ⟨xa, xn, xc, rfl⟩ := hu2.val
  have HC := Lib.hid (sclone_any (.slice xa xn xc) X w2 (by omega) hu2)
  clear h1 h2 h3 hu hu2 hxl
  go_wp2_with fail
  refine HC.out.mono ?_
  rintro e w3 ⟨x, rfl, hx, hb3⟩
  go_wp2
  go_ret
  exact ⟨x, rfl, by rw [HX.out]; exact hx, HK2.out.below hb3, only_below hg2 hb3⟩


set_option maxRecDepth 100000 in
set_option maxHeartbeats 2000000 in
theorem public_any (n h : Nat) (g : Nat) (seed : List Int) (w : World) (hn0 : 1 ≤ n) (hn : n ≤ 32) (hh : h ≤ 8) (hB : IsB seed) (hk : MK w g n h seed) (ht : Tabs w) :
    Calls Tryd.prog 38 #[.pointer (some ⟨g, 0, none⟩)] w fun e w' => ∃ x, e = .returned x ∧ Sl w' x (((lvI n seed h h).getD 0 []).map (Value.int .u8)) ∧ MKB w' g n h seed ∧ w.grownBy w' (some g) := by
  have HN := Lib.hid (mnone_any g n h seed w hn0 hk)
  have HA := Lib.hid (at_any n h g h 0 seed w hn hh hB hk ht (Nat.le_refl _) (Nat.two_pow_pos _))
  obtain ⟨sv, d, lv, _, _, _, k⟩ := hk.blk
  have c1 : w.cell? ⟨g, 1, none⟩ = some (.int .i64 h) := k.cell 1
  clear k hk ht
  go_enter Tryd.func38, Tryd.ntmps38
  go_wp2_with fail
  refine HN.out.mono ?_
  rintro e w1 ⟨rfl, rfl⟩
  go_wp2_with fail
  refine HA.out.mono ?_
  rintro e w2 ⟨x, rfl, hx, hk2, hg2⟩
  go_wp2
  go_ret
  exact ⟨_, rfl, hx, hk2, hg2⟩

set_option maxRecDepth 100000 in
set_option maxHeartbeats 2000000 in
/-- New, where the arguments may be. -/
theorem mnew_ok (n h : Nat) (seed : List Int) (v : Value) (w : World) (hn0 : 1 ≤ n) (hn : n ≤ 32) (hh : h ≤ 8) (hl : seed.length ≤ 64) (hs : Sl w v (seed.map (Value.int .u8))) :
    Calls Tryd.prog 28 #[.int .i64 n, v, .int .i64 h] w fun e w' => ∃ g, e = .returned (.tuple #[.pointer (some ⟨g, 0, none⟩), .int .i64 0]) ∧ w.heap.size ≤ g ∧ MK w' g n h seed ∧ Below w.heap.size w w' := by
  obtain ⟨a, cap, rfl, hc, hm⟩ := hs.shape
  rw [List.length_map] at *
  have HM := Lib.hid (mcan_any n h w)
  rw [show mcanB (n : Int) (h : Int) = true from decide_eq_true (by omega)] at HM
  have HC := Lib.hid (sclone_any (.slice a seed.length cap) seed w (by omega) hs)
  have hlI : ¬ (64 : Int) < (seed.length : Int) := by omega
  clear hs
  go_enter Tryd.func28, Tryd.ntmps28
  go_wp2_with fail
  refine HM.out.mono ?_
  rintro e w1 ⟨rfl, rfl⟩
  go_wp2_with fail
  refine HC.out.mono ?_
  rintro e w2 ⟨x, rfl, hx, hb2⟩
  obtain ⟨xa, xn, xc, rfl⟩ := hx.val
  have hbA : Below w2.heap.size w2 (w2.alloc (.cells (keyCells n h (.slice xa xn xc) 0 0 (.slice none 0 0)) 82)) := (Below.refl _ _).alloc (Nat.le_refl _) _
  have kN := Blk.new w2 82 (keyCells n h (.slice xa xn xc) 0 0 (.slice none 0 0))
  have HE := Lib.hid (show w.heap.size ≤ w2.heap.size ∧ MK (w2.alloc (.cells (keyCells n h (.slice xa xn xc) 0 0 (.slice none 0 0)) 82)) w2.heap.size n h seed ∧ Below w.heap.size w (w2.alloc (.cells (keyCells n h (.slice xa xn xc) 0 0 (.slice none 0 0)) 82)) from ⟨hb2.size, .inr ⟨_, hx.below hbA (Nat.le_refl _), kN⟩, below_trans2 hb2 hbA⟩)
  clear hx hb2 hbA kN
  go_wp2
  go_ret2
  exact ⟨_, rfl, HE.out⟩

/-- New, where the arguments may not be. -/
theorem mnew_no (size h : Int) (seed : List Int) (v : Value) (w : World) (hno : ¬ (1 ≤ size ∧ size ≤ 32 ∧ 0 ≤ h ∧ h ≤ 8 ∧ seed.length ≤ 64)) (hs : Sl w v (seed.map (Value.int .u8))) :
    Calls Tryd.prog 28 #[.int .i64 size, v, .int .i64 h] w fun e w' => e = .returned (.tuple #[.pointer none, .int .i64 1]) ∧ w = w' := by
  obtain ⟨a, cap, rfl, hc, hm⟩ := hs.shape
  rw [List.length_map] at *
  have HM := Lib.hid (mcan_any size h w)
  by_cases hb : 1 ≤ size ∧ size ≤ 32 ∧ 0 ≤ h ∧ h ≤ 8
  · have hlI : (64 : Int) < (seed.length : Int) := by omega
    rw [show mcanB size h = true from decide_eq_true hb] at HM
    clear hs hno hb
    go_enter Tryd.func28, Tryd.ntmps28
    go_wp2_with fail
    refine HM.out.mono ?_
    rintro e w1 ⟨rfl, rfl⟩
    go_wp2
    go_ret2
    exact ⟨rfl, rfl⟩
  · rw [show mcanB size h = false from decide_eq_false hb] at HM
    clear hs hno hb
    go_enter Tryd.func28, Tryd.ntmps28
    go_wp2_with fail
    refine HM.out.mono ?_
    rintro e w1 ⟨rfl, rfl⟩
    go_wp2
    go_ret2
    exact ⟨rfl, rfl⟩

end Go.Proofs.YtililoojjfcfgaaDoor

namespace Go.Proofs.YtililoojjfcfgaaDoor
open Go.RowKit
set_option linter.unusedVariables false

theorem hashT_full (size tag : Int) (pss : List (List Int)) (h0 : 1 ≤ size) (h1 : size ≤ 32) (t0 : 0 ≤ tag) (t1 : tag ≤ 255) (h : ∀ p ∈ pss, p.length ≤ 65535) : (hashT size tag pss).length = size.toNat := by
  have hc : codeT tag pss = 0 := by
    unfold codeT
    rw [if_neg (by omega), if_neg (by rintro ⟨p, hp, hq⟩; have := h p hp; omega)]
  unfold hashT
  rw [if_pos hc]
  unfold cutI
  rw [List.length_take, sumI_len]
  omega
theorem numI_len (n : Int) : (numI n).length = 8 := by simp [numI]
theorem pairT_full (size l p : Int) (x y : List Int) (h0 : 1 ≤ size) (h1 : size ≤ 32) (hx : x.length ≤ 65535) (hy : y.length ≤ 65535) : (pairT size l p x y).length = size.toNat := by
  refine hashT_full size 9 _ h0 h1 (by decide) (by decide) fun q hq => ?_
  simp only [List.mem_cons, List.not_mem_nil, or_false] at hq
  rcases hq with rfl | rfl | rfl | rfl
  · rw [numI_len]; omega
  · rw [numI_len]; omega
  · exact hx
  · exact hy
theorem keyL_full (size : Int) (seed : List Int) (idx : Int) (h0 : 1 ≤ size) (h1 : size ≤ 32) (hs : seed.length ≤ 64) (hi0 : 0 ≤ idx) (hi1 : idx < 256) : (keyL size seed idx).length = size.toNat := by
  unfold keyL
  rw [if_pos (by unfold canB; exact decide_eq_true (by omega))]
  refine hashT_full size 8 _ h0 h1 (by decide) (by decide) fun q hq => ?_
  simp only [List.mem_cons, List.not_mem_nil, or_false] at hq
  rcases hq with rfl | rfl
  · rw [numI_len]; omega
  · have := catI_len (endK_len size seed idx) (4 * size.toNat + 5)
    omega
theorem getD_short {L : List (List Int)} (h : ∀ p ∈ L, p.length ≤ 32) (k : Nat) : (L.getD k []).length ≤ 32 := by
  rw [List.getD_eq_getElem?_getD]
  rcases Nat.lt_or_ge k L.length with hk | hk
  · rw [List.getElem?_eq_getElem hk]; exact h _ (List.getElem_mem _)
  · rw [List.getElem?_eq_none hk]; simp
/-- Every hash of a tree has its size. -/
theorem lvI_full (n : Nat) (seed : List Int) (h : Nat) (h0 : 1 ≤ n) (h1 : n ≤ 32) (hs : seed.length ≤ 64) (hh : h ≤ 8) : ∀ l, ∀ p ∈ lvI n seed h l, p.length = n
  | 0 => by
    intro p hp
    simp only [lvI, botI, List.mem_map, List.mem_range] at hp
    obtain ⟨i, hi, rfl⟩ := hp
    have : 2 ^ h ≤ 2 ^ 8 := Nat.pow_le_pow_right (by omega) hh
    rw [keyL_full _ _ _ (by omega) (by omega) hs (by omega) (by omega)]; omega
  | l + 1 => by
    intro p hp
    simp only [lvI, upI, List.mem_map] at hp
    obtain ⟨i, _, rfl⟩ := hp
    have a1 := getD_short (lvI_short n seed h l) (2 * i)
    have a2 := getD_short (lvI_short n seed h l) (2 * i + 1)
    unfold upA
    rw [pairT_full _ _ _ _ _ (by omega) (by omega) (by omega) (by omega)]; omega

set_option maxRecDepth 100000 in
set_option maxHeartbeats 2000000 in
theorem awake06_any (w : World) (ht : Tabs w) : Calls Tryd.prog 30 #[] w fun e w' => e = .returned (.bool true) ∧ Below w.heap.size w w' := by
  have HN := Lib.hid (mnew_ok 2 1 [] (.slice none 0 0) w (by decide) (by decide) (by decide) (by decide) (Sl.nil _))
  have HT := Lib.hid ht
  clear ht
  go_enter Tryd.func30, Tryd.ntmps30
  go_wp2_with fail
  refine HN.out.mono ?_
  rintro e w2 ⟨g, rfl, hg, hk, hb⟩
  have HP := Lib.hid (public_any 2 1 g [] w2 (by decide) (by decide) (by decide) (by intro x hx; cases hx) hk (HT.out.below hb))
  have HL := Lib.hid (lvI_full 2 [] 1 (by decide) (by decide) (by simp) (by decide) 1 _ (getD_mem (l := lvI (2 : Nat) [] 1 1) (k := 0) (by rw [lvI_len]; decide)))
  generalize (lvI (2 : Nat) [] 1 1).getD 0 [] = X at *
  clear hk
  go_wp2_with fail
  refine HP.out.mono ?_
  rintro e w3 ⟨x, rfl, hx, hk3, hg3⟩
  obtain ⟨xa, xc, rfl, _, _⟩ := hx.shape
  rw [List.length_map, HL.out]
  have hbE := below_of_only hb hg3 hg hb.size
  clear hx hk3 hg3
  go_wp2
  go_ret
  exact ⟨rfl, hbE⟩

/-- Keys that no call made. -/
def NoK (w : World) (p : Value) : Prop := p = .pointer none ∨ ∃ g, p = .pointer (some ⟨g, 0, none⟩) ∧ w.cell? ⟨g, 0, none⟩ = some (.int .i64 0)

theorem mnone_no (p : Value) (w : World) (hk : NoK w p) :
    Calls Tryd.prog 81 #[p] w fun e w' => e = .returned (.bool true) ∧ w = w' := by
  rcases hk with rfl | ⟨g, rfl, c0⟩
  · go_enter Tryd.func81, Tryd.ntmps81
    go_wp2
    go_ret
    exact ⟨rfl, rfl⟩
  · go_enter Tryd.func81, Tryd.ntmps81
    go_wp2
    go_ret
    exact ⟨rfl, rfl⟩

theorem public_no (p : Value) (w : World) (hk : NoK w p) :
    Calls Tryd.prog 38 #[p] w fun e w' => e = .returned (.slice none 0 0) ∧ w = w' := by
  have HN := Lib.hid (mnone_no p w hk)
  obtain ⟨q, rfl⟩ : ∃ q, p = .pointer q := by rcases hk with rfl | ⟨g, rfl, _⟩ <;> exact ⟨_, rfl⟩
  clear hk
  go_enter Tryd.func38, Tryd.ntmps38
  go_wp2_with fail
  refine HN.out.mono ?_
  rintro e w1 ⟨rfl, rfl⟩
  go_wp2
  go_ret
  exact ⟨rfl, rfl⟩

set_option maxRecDepth 100000 in
set_option maxHeartbeats 2000000 in
theorem sign_no (p : Value) (idx : Int) (vd : Value) (w : World) (hk : NoK w p) :
    Calls Tryd.prog 37 #[p, .int .i64 idx, vd] w fun e w' => e = .returned (.tuple #[.agg #[.int .i64 0, .slice none 0 0, .slice none 0 0], .int .i64 2]) ∧ Below w.heap.size w w' := by
  have HN := Lib.hid (fun w' (hb : Below w.heap.size w w') => mnone_no p w' (by
    rcases hk with rfl | ⟨g, rfl, c0⟩
    · exact .inl rfl
    · refine .inr ⟨g, rfl, ?_⟩
      rw [hb.cell (p := ⟨g, 0, none⟩) (by
        rcases Nat.lt_or_ge g w.heap.size with hlt | hge
        · exact hlt
        · simp [World.cell?, Array.getElem?_eq_none hge] at c0)]
      exact c0))
  obtain ⟨q, rfl⟩ : ∃ q, p = .pointer q := by rcases hk with rfl | ⟨g, rfl, _⟩ <;> exact ⟨_, rfl⟩
  have hbA : Below w.heap.size w (w.alloc (.cells #[.int .i64 0, .slice none 0 0, .slice none 0 0] 61)) := (Below.refl _ _).alloc (Nat.le_refl _) _
  have kA := Blk.new w 61 #[.int .i64 0, .slice none 0 0, .slice none 0 0]
  obtain ⟨z0, z1, z2⟩ := rec3 kA
  clear hk
  go_enter Tryd.func37, Tryd.ntmps37
  go_wp2_with fail
  refine (HN.out _ hbA).mono ?_
  rintro e w1 ⟨rfl, rfl⟩
  go_wp2
  exact bodyPost_ret (by rw [results_cell_tmp rfl]; go_simp) rfl ⟨rfl, hbA⟩

set_option maxRecDepth 100000 in
set_option maxHeartbeats 4000000 in
theorem mtsNobody_walk (idx : Int) (v : Value) (bs : List Int) (w : World) (ht : Tabs w) (hi0 : -9223372036854775808 ≤ idx) (hi1 : idx ≤ 9223372036854775807) (hB : IsB bs) (hs : Sl w v (bs.map (Value.int .u8))) (hl : bs.length ≤ 140737488351232) :
    Calls Tryd.prog 8 #[.int .i64 idx, v] w fun e w' => e = .returned (.bool true) ∧ Below w.heap.size w w' := by
  have HT := Lib.hid ht
  clear ht hs hB hl
  have hb1 : Below w.heap.size w (w.alloc (.cells #[.int .i64 0, .int .i64 0, .slice none 0 0, .int .u32 0, .int .i32 0, .int .u32 0, .slice none 0 0] 82)) := (Below.refl _ _).alloc (Nat.le_refl _) _
  have hb2 : Below w.heap.size w ((w.alloc (.cells #[.int .i64 0, .int .i64 0, .slice none 0 0, .int .u32 0, .int .i32 0, .int .u32 0, .slice none 0 0] 82)).alloc (.cells #[.pointer none, .pointer (some ⟨w.heap.size, 0, none⟩)] 48)) := hb1.alloc hb1.size _
  have k1 : Blk ((w.alloc (.cells #[.int .i64 0, .int .i64 0, .slice none 0 0, .int .u32 0, .int .i32 0, .int .u32 0, .slice none 0 0] 82)).alloc (.cells #[.pointer none, .pointer (some ⟨w.heap.size, 0, none⟩)] 48)) w.heap.size 82 #[.int .i64 0, .int .i64 0, .slice none 0 0, .int .u32 0, .int .i32 0, .int .u32 0, .slice none 0 0] := (Blk.new w _ _).alloc _
  have k2 := Blk.new (w.alloc (.cells #[.int .i64 0, .int .i64 0, .slice none 0 0, .int .u32 0, .int .i32 0, .int .u32 0, .slice none 0 0] 82)) 48 #[.pointer none, .pointer (some ⟨w.heap.size, 0, none⟩)]
  rw [World.size_alloc] at k2
  go_enter Tryd.func8, Tryd.ntmps8
  go_wp2
  generalize ((w.alloc (.cells #[.int .i64 0, .int .i64 0, .slice none 0 0, .int .u32 0, .int .i32 0, .int .u32 0, .slice none 0 0] 82)).alloc (.cells #[.pointer none, .pointer (some ⟨w.heap.size, 0, none⟩)] 48)) = w2 at *
  go_loopw [6, 7, 8, 13] (fun _ _ _ i wr => ∃ k : Nat, k ≤ 2 ∧ i = .int .i64 k ∧ Below w2.heap.size w2 wr) (fun _ _ _ i _ => 2 - (intOf i).toNat)
  case atStart => exact ⟨0, by omega, rfl, Below.refl _ _⟩
  case round =>
    obtain ⟨k, hk, rfl, hbr⟩ := hrel
    have k1 := k1.belowS hbr
    have k2 := k2.belowS hbr
    have c0 : wr.cell? ⟨w.heap.size + 1, 0, none⟩ = some (.pointer none) := k2.cell 0
    have c1 : wr.cell? ⟨w.heap.size + 1, 1, none⟩ = some (.pointer (some ⟨w.heap.size, 0, none⟩)) := k2.cell 1
    have HN0 := Lib.hid (show NoK wr (.pointer none) from .inl rfl)
    have HN1 := Lib.hid (show NoK wr (.pointer (some ⟨w.heap.size, 0, none⟩)) from .inr ⟨_, rfl, k1.cell 0⟩)
    have HNB := Lib.hid (fun p w' (h : NoK wr p) (hb : Below wr.heap.size wr w') => show NoK w' p from (by
      rcases h with rfl | ⟨g, rfl, c⟩
      · exact .inl rfl
      · refine .inr ⟨g, rfl, ?_⟩
        rw [hb.cell (p := ⟨g, 0, none⟩) (by
          rcases Nat.lt_or_ge g wr.heap.size with hlt | hge
          · exact hlt
          · simp [World.cell?, Array.getElem?_eq_none hge] at c)]
        exact c))
    have HBR := Lib.hid hbr
    clear hbr k1 k2
    obtain rfl | rfl | rfl : k = 0 ∨ k = 1 ∨ k = 2 := by omega
    · clear hk
      simp only [Int.cast_ofNat_Int]
      go_wp2_with fail
      refine (sign_no (.pointer none) idx v wr HN0.out).mono ?_
      rintro e w3 ⟨rfl, hb3⟩
      have hbA : Below w3.heap.size w3 (w3.alloc (.cells #[.int .i64 0, .slice none 0 0, .slice none 0 0] 61)) := (Below.refl _ _).alloc (Nat.le_refl _) _
      obtain ⟨z0, z1, z2⟩ := rec3 (Blk.new w3 61 #[.int .i64 0, .slice none 0 0, .slice none 0 0])
      have hN := HNB.out _ _ HN0.out (below_trans2 hb3 hbA)
      go_wp2_with fail
      refine (public_no (.pointer none) _ hN).mono ?_
      rintro e w4 ⟨rfl, rfl⟩
      go_wp2
      go_roundw
      case rel => exact ⟨1, by omega, rfl, HBR.out.trans ((below_trans2 hb3 hbA).mono HBR.out.size)⟩
      case measure => simp [intOf]
    · clear hk
      simp only [Int.cast_ofNat_Int]
      go_wp2_with fail
      refine (sign_no (.pointer (some ⟨w.heap.size, 0, none⟩)) idx v wr HN1.out).mono ?_
      rintro e w3 ⟨rfl, hb3⟩
      have hbA : Below w3.heap.size w3 (w3.alloc (.cells #[.int .i64 0, .slice none 0 0, .slice none 0 0] 61)) := (Below.refl _ _).alloc (Nat.le_refl _) _
      obtain ⟨z0, z1, z2⟩ := rec3 (Blk.new w3 61 #[.int .i64 0, .slice none 0 0, .slice none 0 0])
      have hN := HNB.out _ _ HN1.out (below_trans2 hb3 hbA)
      go_wp2_with fail
      refine (public_no (.pointer (some ⟨w.heap.size, 0, none⟩)) _ hN).mono ?_
      rintro e w4 ⟨rfl, rfl⟩
      go_wp2
      go_roundw
      case rel => exact ⟨2, by omega, rfl, HBR.out.trans ((below_trans2 hb3 hbA).mono HBR.out.size)⟩
      case measure => simp [intOf]
    · simp only [Int.cast_ofNat_Int]
      have hbw := hb2.trans (HBR.out.mono hb2.size)
      go_wp2_with fail
      refine (awake06_any wr (HT.out.below hbw)).mono ?_
      rintro e w3 ⟨rfl, hb3⟩
      go_wp2
      go_ret
      exact ⟨rfl, below_trans2 hbw hb3⟩

end Go.Proofs.YtililoojjfcfgaaDoor
