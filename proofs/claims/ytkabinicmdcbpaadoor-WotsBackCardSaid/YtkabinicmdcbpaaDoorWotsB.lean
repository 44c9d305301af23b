/- The walk of the law WotsBack. -/
import Derived.Test.YtkabinicmdcbpaaDoorWotsN
import Derived.Test.YtkabinicmdcbpaaDoorMake
import Derived.Test.YtkabinicmdcbpaaDoorShaE
import Derived.Deep.DeepCutAuto
namespace Go.Proofs.YtkabinicmdcbpaaDoor
open Go.RowKit
set_option linter.unusedVariables false

theorem hashT_size (n : Nat) (hn : n ≤ 32) (tag : Int) (pss : List (List Int)) (h : codeT tag pss = 0) : (hashT n tag pss).length = n := by
  unfold hashT; rw [if_pos h, cutI_len]; omega
theorem codeT_ok {tag : Int} {pss : List (List Int)} (h0 : 0 ≤ tag) (h1 : tag ≤ 255) (h : ∀ p ∈ pss, p.length ≤ 65535) : codeT tag pss = 0 := by
  unfold codeT
  rw [if_neg (by omega), if_neg (fun ⟨p, hp, hl⟩ => by have := h p hp; omega)]
theorem numI_len (n : Int) : (numI n).length = 8 := by simp [numI]
theorem secI_size (n : Nat) (hn : n ≤ 32) (seed : List Int) (idx i : Int) (h : canB n seed.length idx = true) : (secI n seed idx i).length = n := by
  unfold secI; rw [if_pos h]
  refine hashT_size n hn _ _ (codeT_ok (by omega) (by omega) fun p hp => ?_)
  simp only [List.mem_cons, List.not_mem_nil, or_false] at hp
  unfold canB at h
  have := of_decide_eq_true h
  rcases hp with rfl | rfl | rfl
  · omega
  · rw [numI_len]; omega
  · rw [numI_len]; omega
theorem chI_size (n : Nat) (hn : n ≤ 32) (idx i f : Int) (x : List Int) (h : x.length = n) : ∀ k, (chI n idx i f x k).length = n
  | 0 => h
  | k + 1 => hashT_size n hn _ _ (codeT_ok (by omega) (by omega) fun p hp => by
    simp only [List.mem_cons, List.not_mem_nil, or_false] at hp
    have := chI_size n hn idx i f x h k
    rcases hp with rfl | rfl | rfl | rfl
    · rw [numI_len]; omega
    · rw [numI_len]; omega
    · rw [numI_len]; omega
    · omega)

theorem sgU_isB (size : Int) (seed : List Int) (idx : Int) (dd : List Int) (k : Nat) : ∀ p ∈ sgU size seed idx dd k, IsB p := fun p hp => by
  unfold sgU at hp
  obtain ⟨i, _, rfl⟩ := List.mem_map.1 hp
  exact chI_isB _ _ _ _ _ (secI_isB _ _ _ _) _
theorem sgU_at (size : Int) (seed : List Int) (idx : Int) (dd : List Int) (k i : Nat) (h : i < k) : (sgU size seed idx dd k).getD i [] = chI size idx i 0 (secI size seed idx i) (dd.getD i 0).toNat := by
  unfold sgU
  rw [List.getD_eq_getElem?_getD, List.getElem?_map, List.getElem?_range h]; rfl

theorem back_all (n : Nat) (h1 : 1 ≤ n) (hn : n ≤ 32) (seed : List Int) (idx : Int) (dg : List Int) (hs : seed.length ≤ 64) (hi0 : 0 ≤ idx) (hi1 : idx < 256) (hd : dg.length = n) :
    signE n seed.length idx dg.length = 0 ∧ keyE n seed.length idx = 0 ∧ signL n seed idx dg = sgU n seed idx (digitsOf dg) (4 * n + 5) ∧ recE n (sgU n seed idx (digitsOf dg) (4 * n + 5)) idx dg.length = 0 ∧ recL n (sgU n seed idx (digitsOf dg) (4 * n + 5)) idx dg = keyL n seed idx ∧ (keyL n seed idx).length = n := by
  have hc : canB n seed.length idx = true := decide_eq_true (by omega)
  have hc0 : canB n 0 idx = true := decide_eq_true (by omega)
  have hall : ¬ ∃ p ∈ sgU n seed idx (digitsOf dg) (4 * n + 5), ¬ (p.length : Int) = (n : Int) := by
    rintro ⟨p, hp, hne⟩
    unfold sgU at hp
    obtain ⟨i, _, rfl⟩ := List.mem_map.1 hp
    rw [chI_size n hn _ _ _ _ (secI_size n hn seed idx i hc)] at hne
    exact hne rfl
  have hrb : recB n (sgU n seed idx (digitsOf dg) (4 * n + 5)) idx dg.length = true := by
    unfold recB
    rw [hc0, decide_eq_true (show (dg.length : Int) = n by omega), decide_eq_true (show ((sgU n seed idx (digitsOf dg) (4 * n + 5)).length : Int) = 4 * (n : Int) + 5 by rw [sgU_len]; omega), decide_eq_false hall]; rfl
  refine ⟨by unfold signE; rw [if_pos ⟨hc, by omega⟩], by unfold keyE; rw [if_pos hc], by unfold signL; rw [if_pos ⟨hc, by omega⟩, hd], by unfold recE; rw [if_pos hrb], ?_, ?_⟩
  · unfold recL keyL
    rw [if_pos hrb, if_pos hc, Int.toNat_natCast]
    congr 3
    refine catI_congr _ fun i hi => ?_
    have hdm := digits_mem (a := dg) (by omega) i
    unfold recK endK
    rw [getD_take (by omega) hall, sgU_at _ _ _ _ _ _ hi]
    obtain ⟨d, hd'⟩ : ∃ d : Nat, (digitsOf dg).getD i 0 = d := ⟨((digitsOf dg).getD i 0).toNat, by omega⟩
    rw [hd', Int.toNat_natCast]
    have h3 : 3 = d + (3 - d) := by omega
    rw [show chI (n : Int) idx i 0 (secI n seed idx i) 3 = chI (n : Int) idx i 0 (secI n seed idx i) (d + (3 - d)) by rw [← h3], chI_add, Int.zero_add]
  · unfold keyL
    rw [if_pos hc]
    refine hashT_size n hn _ _ (codeT_ok (by omega) (by omega) fun p hp => ?_)
    simp only [List.mem_cons, List.not_mem_nil, or_false] at hp
    have := catI_len (endK_len n seed idx) (4 * (n : Int).toNat + 5)
    rw [Int.toNat_natCast] at *
    rcases hp with rfl | rfl
    · rw [numI_len]; omega
    · omega

set_option maxRecDepth 100000 in
set_option maxHeartbeats 2000000 in
theorem wotsBack_walk (size : Int) (v : Value) (seed0 : List Int) (idx : Int) (vb : Value) (b : List Int) (w : World) (ht : Tabs w) (hz0 : -9223372036854775808 ≤ size) (hz1 : size ≤ 9223372036854775807) (hB0 : IsB seed0) (hs0 : Sl w v (seed0.map (Value.int .u8))) (hn0 : seed0.length ≤ 140737488351232)
    (hx0 : -9223372036854775808 ≤ idx) (hx1 : idx ≤ 9223372036854775807) (hBb : IsB b) (hsb : Sl w vb (b.map (Value.int .u8))) (hnb : b.length ≤ 140737488351232) :
    Calls Tryd.prog 5 #[.int .i64 size, v, .int .i64 idx, vb] w fun e w' => e = .returned (.bool true) ∧ Below w.heap.size w w' := by
  have h1 := u64_rem size 32 (by omega) (by omega)
  generalize hL : wrap64 ((IntKind.u64.wrap size).tmod 32) = L at h1
  obtain ⟨n, rfl⟩ : ∃ n : Nat, L = n := ⟨L.toNat, by omega⟩
  have h2 := u64_rem idx 256 (by omega) (by omega)
  generalize hM : wrap64 ((IntKind.u64.wrap idx).tmod 256) = M at h2
  obtain ⟨m, rfl⟩ : ∃ m : Nat, M = m := ⟨M.toNat, by omega⟩
  have hmk := fun w1 => run_make_bytes (1 + n) (by omega) w1
  rw [show ((1 + n : Nat) : Int) = 1 + (n : Int) by omega] at hmk
  obtain ⟨va, vc, rfl, hvc, hvm⟩ := hs0.shape
  obtain ⟨ba, bc, rfl, hbc, hbm⟩ := hsb.shape
  simp only [List.length_map] at *
  have HNB := Lib.hid hnb
  clear hnb
  have HCUT : ∃ s : Nat, s ≤ 64 ∧ s ≤ seed0.length ∧ (s = 64 ∨ s = seed0.length) := ⟨min 64 seed0.length, by omega, by omega, by omega⟩
  have key : ∀ (s : Nat), s ≤ 64 → s ≤ seed0.length → (s = 64 ∧ 64 < seed0.length ∨ s = seed0.length ∧ ¬ 64 < seed0.length) →
      Calls Tryd.prog 5 #[.int .i64 size, .slice va seed0.length vc, .int .i64 idx, .slice ba b.length bc] w fun e w' => e = .returned (.bool true) ∧ Below w.heap.size w w' := by
    intro s hs64 hsl hor
    have hs := hs0.take s (by simpa using hsl)
    rw [← List.map_take] at hs
    have hB := hB0.take s
    have hlen : (seed0.take s).length ≤ 64 := by rw [List.length_take]; omega
    have hB1 := padTo_isB hBb (1 + n)
    have HALL := Lib.hid (back_all (1 + n) (by omega) (by omega) (seed0.take s) m (padTo (1 + n) b) hlen (by omega) (by omega) (padTo_len _ _))
    rw [show ((1 + n : Nat) : Int) = 1 + (n : Int) by omega] at HALL
    have hb0 : Below w.heap.size w (w.alloc (.cells (Array.replicate (1 + n) (Value.int .u8 0)) 5)) := (Below.refl _ _).alloc (Nat.le_refl _) _
    have k0 := Blk.new w 5 (Array.replicate (1 + n) (Value.int .u8 0))
    have hsb1 := hsb.below hb0 (Nat.le_refl _)
    have HS := Lib.hid hs
    have HPL := Lib.hid (padTo_len (1 + n) b)
    generalize seed0.take s = seed at *
    have hcI : (s : Int) ≤ (vc : Int) := by omega
    rcases hor with ⟨rfl, hor⟩ | ⟨rfl, hor⟩
    all_goals
      have horI := Lib.hid hor
      clear hs hs0 hsb hB0
      first | (have h64 : (64 : Int) < (seed0.length : Int) := by omega) | (have h64 : ¬ (64 : Int) < (seed0.length : Int) := by omega)
      clear hor
      go_enter Tryd.func5, Tryd.ntmps5
      go_wp2_with (with_reducible refine wpList_copy_pad rfl _ _ rfl w.heap.size (1 + n) (1 + n) rfl (.slice ba b.length bc) b rfl hsb1 k0 w.heap.size w hb0 (Nat.le_refl _) ?_)
      intro w1 kk hk1 hb1
      have hd := Sl.ofBlk hk1.out (1 + n) (by rw [List.length_map, HPL.out]) (by rw [List.length_map, HPL.out]; unfold maxLen; omega)
      have hs := HS.out.below hb1 (Nat.le_refl _)
      have ht1 := ht.below hb1
      have hb1 : Below w.heap.size w w1 := hb1
      clear hk1 k0 hb0 hsb1 HS
      go_wp2_with fail
      refine (sign_any (1 + n) _ seed m _ _ w1 (by omega) (by omega) hB hs hB1 hd ht1).mono ?_
      rintro e w2 ⟨y1, rfl, hy1, hb2⟩
      rw [HALL.out.2.2.1] at hy1
      rw [HALL.out.1]
      have hs := hs.below hb2 (Nat.le_refl _)
      have hd := hd.below hb2 (Nat.le_refl _)
      have ht2 := ht1.below hb2
      have hb2 := hb1.trans (hb2.mono hb1.size)
      go_wp2_with fail
      refine (key_any (1 + n) _ seed m w2 (by omega) (by omega) hB hs ht2).mono ?_
      rintro e w3 ⟨y2, rfl, hy2, hb3⟩
      rw [HALL.out.2.1]
      have hy1 := hy1.below hb3 (Nat.le_refl _)
      have hd := hd.below hb3 (Nat.le_refl _)
      have ht3 := ht2.below hb3
      have hb3 := hb2.trans (hb3.mono hb2.size)
      go_wp2_with fail
      refine (recover_any (1 + n) y1 _ m _ _ w3 (by omega) (by omega) (by omega) (by omega) (sgU_isB _ _ _ _ _) hy1 hB1 hd ht3).mono ?_
      rintro e w4 ⟨y3, rfl, hy3, hb4⟩
      rw [HALL.out.2.2.2.1]
      rw [HALL.out.2.2.2.2.1] at hy3
      have hy2 := hy2.below hb4 (Nat.le_refl _)
      have hb4 := hb3.trans (hb4.mono hb3.size)
      have HK := Lib.hid HALL.out.2.2.2.2.2
      have HKB := Lib.hid (keyL_isB (1 + (n : Int)) seed m)
      generalize keyL (1 + (n : Int)) seed m = KK at *
      have HEQ := Lib.hid (bytesEq_same _ _ KK w4 hy3 hy2 HKB.out)
      obtain ⟨ya, yc, rfl, _, _⟩ := hy2.shape
      rw [List.length_map, HK.out] at HEQ ⊢
      clear hy1 hy2 hy3 hd hs HALL
      go_wp2_with fail
      refine HEQ.out.mono ?_
      rintro e w5 ⟨rfl, rfl⟩
      go_wp2
      go_ret
      exact ⟨rfl, hb4⟩
  obtain ⟨s, a1, a2, a3⟩ := HCUT
  exact key s a1 a2 (by omega)

end Go.Proofs.YtkabinicmdcbpaaDoor
