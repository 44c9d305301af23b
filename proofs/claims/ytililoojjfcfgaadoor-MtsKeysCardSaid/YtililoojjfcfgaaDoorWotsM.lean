/- The walks of end, Key, the program's; Key of the reference. -/
import Derived.Test.YtililoojjfcfgaaDoorWotsL
import Derived.Deep.RegionHeld3
import Derived.StillTailTactics
namespace Go.Proofs.YtililoojjfcfgaaDoor
open Go.RowKit
set_option linter.unusedVariables false

def catI (f : Nat → List Int) : Nat → List Int
  | 0 => []
  | n + 1 => catI f n ++ f n
theorem catI_isB {f : Nat → List Int} (h : ∀ i, IsB (f i)) : ∀ n, IsB (catI f n)
  | 0 => fun x hx => by cases hx
  | n + 1 => (catI_isB h n).append (h n)
theorem catI_len {f : Nat → List Int} (h : ∀ i, (f i).length ≤ 32) : ∀ n, (catI f n).length ≤ 32 * n
  | 0 => by simp [catI]
  | n + 1 => by have := catI_len h n; have := h n; simp only [catI, List.length_append]; omega
theorem catI_congr {f g : Nat → List Int} : ∀ n, (∀ i, i < n → f i = g i) → catI f n = catI g n
  | 0, _ => rfl
  | n + 1, h => by simp only [catI]; rw [catI_congr n (fun i hi => h i (by omega)), h n (by omega)]


set_option maxRecDepth 100000 in
set_option maxHeartbeats 1000000 in
theorem endKey_any (c1 c2 c3 : Nat) (n : Nat) (hn : n ≤ 100) (idx : Int) (hx0 : -9223372036854775808 ≤ idx) (hx1 : idx ≤ 9223372036854775807) (f : Nat → List Int) (hf : ∀ i, IsB (f i)) (hfl : ∀ i, (f i).length ≤ 32) (I : World → Prop) (hI : ∀ w w', I w → Below w.heap.size w w' → I w')
    (hK : ∀ (i : Nat) (w : World), i < 4 * n + 5 → I w → Calls Tryd.prog 165 #[.int .i64 i, .pointer (some ⟨c1, 0, none⟩), .pointer (some ⟨c2, 0, none⟩), .pointer (some ⟨c3, 0, none⟩)] w fun e w' => ∃ x, e = .returned x ∧ Sl w' x ((f i).map (Value.int .u8)) ∧ Below w.heap.size w w') (w : World) (hIw : I w) (ht : Tabs w) :
    Calls Tryd.prog 135 #[.int .i64 n, .int .i64 idx, .func (.func 165) #[] #[.pointer (some ⟨c1, 0, none⟩), .pointer (some ⟨c2, 0, none⟩), .pointer (some ⟨c3, 0, none⟩)]] w fun e w' => ∃ x, e = .returned x ∧ Sl w' x ((hashT n 8 [numI idx, catI f (4 * n + 5)]).map (Value.int .u8)) ∧ Below w.heap.size w w' := by
  obtain ⟨i0, hi, hz0, hz1, hz2⟩ := info_parts info8c
  have HFL := Lib.hid (catI_len hfl)
  have HF1 := Lib.hid hfl
  clear hfl
  go_enter Tryd.func135, Tryd.ntmps135
  go_wp2_with fail
  refine (chains_any n w (by omega)).mono ?_
  rintro e w1 ⟨rfl, rfl⟩
  go_wp2
  go_loopw [7, 11] (fun l i wr => ∃ (k : Nat) (lv : Value), lv = l ∧ k ≤ 4 * n + 5 ∧ i = .int .i64 k ∧ wr.ownsRow w.heap.size 5 1 lv (catI f k).length ((catI f k).map (Value.int .u8)) ∧ Below w.heap.size w wr) (fun _ i _ => 4 * n + 5 - (intOf i).toNat)
  case atStart => exact ⟨0, _, rfl, by omega, rfl, World.ownsRow_nil _ _ _ _, Below.refl _ _⟩
  case round =>
    obtain ⟨k, l, rfl, hk, rfl, hown, hbr⟩ := hrel
    by_cases hlt : k < 4 * n + 5
    · have hkI : (k : Int) < ((4 * n + 5 : Nat) : Int) := by omega
      have HLN := Lib.hid (show (catI f k).length + (f k).length ≤ 100000 by have := HFL.out k; have := HF1.out k; omega)
      go_wp2_with fail
      refine (hK k wr hlt (hI _ _ hIw hbr)).mono ?_
      rintro e w2 ⟨x, rfl, hx, hb2⟩
      have hown := ownsRow_below hown hb2 (Nat.le_refl _)
      have hbr := hbr.trans (hb2.mono hbr.size)
      clear hb2
      obtain ⟨xa, xn, xc, rfl⟩ := hx.val
      go_wp2_with (at_builtin; refine wpList_append_sl rfl _ _ 22 rfl w.heap.size 5 i0 (.int .u8 0) 1 Tryd.underlying22 hi hz0 hz1 hz2 rfl _ _ _ rfl hown (.slice xa xn xc) ((f k).map (Value.int .u8)) rfl hx (one8 _) (by have := HLN.out; rw [List.length_map]; unfold maxLen; omega) (by have := HLN.out; rw [List.length_map]; omega) hbr.size ?_)
      intro v3 w3 hown3 hg3
      have hb3 := below_grown hbr hown (Nat.le_refl _) hbr.size hg3
      clear hg3 hown hx hbr
      go_wp2
      go_roundw
      case rel => exact ⟨k + 1, v3, rfl, by omega, by go_num, by simpa [catI] using hown3, hb3⟩
      case measure => simp [intOf]; omega
    · obtain rfl : k = 4 * n + 5 := by omega
      have hkI : ¬ ((4 * n + 5 : Nat) : Int) < ((4 * n + 5 : Nat) : Int) := by omega
      have hs := Sl.of_owns hown
      have hCB := catI_isB hf (4 * n + 5)
      have htr := ht.below hbr
      obtain ⟨C, hC⟩ : ∃ C, C = catI f (4 * n + 5) := ⟨_, rfl⟩
      rw [← hC] at hs hCB
      have HCe := Lib.hid hC
      clear hC
      obtain ⟨va, vn, vc, rfl⟩ := hs.val
      clear hown hIw hK hI hf
      go_wp2_with fail
      refine (number_any idx wr hx0 hx1).mono ?_
      rintro e w2 ⟨n1, rfl, hn1, hb2⟩
      have hs := hs.below hb2 (Nat.le_refl _)
      have htr := htr.below hb2
      have hbr := hbr.trans (hb2.mono hbr.size)
      obtain ⟨a1, m1, d1, rfl⟩ := hn1.val
      have hL := Sls.litA _ 22 (show SlAll w2 [.slice a1 m1 d1, .slice va vn vc] [numI idx, C] from ⟨hn1, hs, trivial⟩) (by simp [maxLen])
      have hb0 : Below w2.heap.size w2 (w2.alloc (.cells #[.slice a1 m1 d1, .slice va vn vc] 22)) := (Below.refl _ _).alloc (Nat.le_refl _) _
      have hbA := hbr.trans (hb0.mono hbr.size)
      have htA := htr.below hb0
      have HH := Lib.hid (hash_any n 8 _ _ _ (by simp) (by decide) (by decide) hL (fun p hp => by
        simp only [List.mem_cons, List.not_mem_nil, or_false] at hp
        rcases hp with rfl | rfl
        · exact numI_isB _
        · exact hCB) htA)
      clear hL hs hn1 hb2 hb0 htA htr hCB hbr
      go_wp2_with fail
      refine HH.out.mono ?_
      rintro e w5 ⟨y, rfl, hy, hb5⟩
      have hbr := hbA.trans (hb5.mono hbA.size)
      go_wp2
      go_ret
      exact ⟨_, rfl, by rw [← HCe.out]; exact hy, hbr⟩


/-- A chain's end, from its beginning on. -/
def endK (size : Int) (seed : List Int) (idx : Int) (i : Nat) : List Int := chI size idx i 0 (secI size seed idx i) 3
theorem endK_isB (size : Int) (seed : List Int) (idx : Int) (i : Nat) : IsB (endK size seed idx i) := chI_isB _ _ _ _ _ (secI_isB _ _ _ _) _
theorem endK_len (size : Int) (seed : List Int) (idx : Int) (i : Nat) : (endK size seed idx i).length ≤ 32 := by
  have := chI_len size idx i 0 (secI size seed idx i) 3; have := secI_len size seed idx i; unfold endK; omega

set_option maxRecDepth 100000 in
set_option maxHeartbeats 1000000 in
theorem key1_any (size : Int) (v : Value) (seed : List Int) (idx : Int) (i : Nat) (c1 c2 c3 : Nat) (w : World) (hx0 : -9223372036854775808 ≤ idx) (hx1 : idx ≤ 9223372036854775807) (hi : i ≤ 1000)
    (k1 : Blk w c1 3 #[.int .i64 size]) (k2 : Blk w c2 22 #[v]) (k3 : Blk w c3 3 #[.int .i64 idx]) (hB : IsB seed) (hs : Sl w v (seed.map (Value.int .u8))) (ht : Tabs w) :
    Calls Tryd.prog 165 #[.int .i64 i, .pointer (some ⟨c1, 0, none⟩), .pointer (some ⟨c2, 0, none⟩), .pointer (some ⟨c3, 0, none⟩)] w fun e w' => ∃ x, e = .returned x ∧ Sl w' x ((endK size seed idx i).map (Value.int .u8)) ∧ Below w.heap.size w w' := by
  obtain ⟨va, vn, vc, rfl⟩ := hs.val
  have q1 : w.cell? ⟨c1, 0, none⟩ = some (.int .i64 size) := k1.cell 0
  have q2 : w.cell? ⟨c2, 0, none⟩ = some (.slice va vn vc) := k2.cell 0
  have q3 : w.cell? ⟨c3, 0, none⟩ = some (.int .i64 idx) := k3.cell 0
  have l1 := k1.lt
  have l2 := k2.lt
  have l3 := k3.lt
  have HS := Lib.hid (fun w1 (h : Below w.heap.size w w1) => secret_any size (.slice va vn vc) seed idx i w1 hx0 hx1 (by omega) (by omega) hB (hs.below h (Nat.le_refl _)) (ht.below h))
  have HT := Lib.hid (fun w1 (h : Below w.heap.size w w1) => ht.below h)
  clear k1 k2 k3 hs ht
  go_enter Tryd.func165, Tryd.ntmps165
  go_wp2
  go_region_held3 (fun w' => w'.cell? ⟨c1, 0, none⟩ = some (.int .i64 size) ∧ w'.cell? ⟨c2, 0, none⟩ = some (.slice va vn vc) ∧ w'.cell? ⟨c3, 0, none⟩ = some (.int .i64 idx))
    (first | exact ⟨q1, q2, q3⟩ | exact ⟨(hb1.cell (p := ⟨c1, 0, none⟩) l1).trans q1, (hb1.cell (p := ⟨c2, 0, none⟩) l2).trans q2, (hb1.cell (p := ⟨c3, 0, none⟩) l3).trans q3⟩ | exact ⟨((hb2.cell (p := ⟨c1, 0, none⟩) (Nat.lt_of_lt_of_le l1 hb1.size)).trans (hb1.cell (p := ⟨c1, 0, none⟩) l1)).trans q1, ((hb2.cell (p := ⟨c2, 0, none⟩) (Nat.lt_of_lt_of_le l2 hb1.size)).trans (hb1.cell (p := ⟨c2, 0, none⟩) l2)).trans q2, ((hb2.cell (p := ⟨c3, 0, none⟩) (Nat.lt_of_lt_of_le l3 hb1.size)).trans (hb1.cell (p := ⟨c3, 0, none⟩) l3)).trans q3⟩)
    (first | (go_at_call 123; refine (HS.out _ (by first | exact Below.refl _ _ | exact (Below.refl _ _).drew)).mono ?_; rintro e w1 ⟨x1, rfl, hx1', hb1⟩; have hb1 : Below w.heap.size w w1 := ⟨hb1.os, hb1.tape, hb1.output, hb1.size, hb1.block⟩) | (go_at_call 122; refine (chain03_any size x1 _ idx i w1 hx0 hx1 (by omega) (by omega) (by have := secI_len size seed idx i; omega) (secI_isB _ _ _ _) hx1' (HT.out _ hb1)).mono ?_; rintro e w2 ⟨x2, rfl, hx2, hb2⟩))
  go_wp2
  go_ret
  exact ⟨_, rfl, hx2, below_trans2 hb1 hb2⟩

/-- What Key returns. -/
def keyE (size : Int) (n : Nat) (idx : Int) : Int := if canB size n idx = true then 0 else 1
def keyL (size : Int) (seed : List Int) (idx : Int) : List Int := if canB size seed.length idx = true then hashT size 8 [numI idx, catI (endK size seed idx) (4 * size.toNat + 5)] else []
theorem keyL_isB (size : Int) (seed : List Int) (idx : Int) : IsB (keyL size seed idx) := by
  unfold keyL; split
  · exact hashT_isB' _ _ _
  · intro x hx; cases hx

set_option maxRecDepth 100000 in
set_option maxHeartbeats 1000000 in
theorem key_any (size : Int) (v : Value) (seed : List Int) (idx : Int) (w : World) (hx0 : -9223372036854775808 ≤ idx) (hx1 : idx ≤ 9223372036854775807) (hB : IsB seed) (hs : Sl w v (seed.map (Value.int .u8))) (ht : Tabs w) :
    Calls Tryd.prog 154 #[.int .i64 size, v, .int .i64 idx] w fun e w' => ∃ x, e = .returned (.tuple #[x, .int .i64 (keyE size seed.length idx)]) ∧ Sl w' x ((keyL size seed idx).map (Value.int .u8)) ∧ Below w.heap.size w w' := by
  obtain ⟨va, vn, vc, rfl⟩ := hs.val
  have HC := Lib.hid (fun w1 (h : Below w.heap.size w w1) => can_any size (.slice va vn vc) seed idx w1 (hs.below h (Nat.le_refl _)))
  have HE := Lib.hid (show keyE size seed.length idx = if canB size seed.length idx = true then 0 else 1 from rfl)
  have HL := Lib.hid (show keyL size seed idx = if canB size seed.length idx = true then hashT size 8 [numI idx, catI (endK size seed idx) (4 * size.toNat + 5)] else [] from rfl)
  have hb3 : Below w.heap.size w (((w.alloc (.cells #[.int .i64 size] 3)).alloc (.cells #[.slice va vn vc] 22)).alloc (.cells #[.int .i64 idx] 3)) := (((Below.refl _ _).alloc (Nat.le_refl _) _).alloc (by simp) _).alloc (by simp; omega) _
  have k1 : Blk (((w.alloc (.cells #[.int .i64 size] 3)).alloc (.cells #[.slice va vn vc] 22)).alloc (.cells #[.int .i64 idx] 3)) w.heap.size 3 #[.int .i64 size] := ((Blk.new w _ _).alloc _).alloc _
  have k2 : Blk (((w.alloc (.cells #[.int .i64 size] 3)).alloc (.cells #[.slice va vn vc] 22)).alloc (.cells #[.int .i64 idx] 3)) (w.heap.size + 1) 22 #[.slice va vn vc] := by
    have := (Blk.new (w.alloc (.cells #[.int .i64 size] 3)) 22 #[.slice va vn vc]).alloc (.cells #[.int .i64 idx] 3)
    simpa using this
  have k3 : Blk (((w.alloc (.cells #[.int .i64 size] 3)).alloc (.cells #[.slice va vn vc] 22)).alloc (.cells #[.int .i64 idx] 3)) (w.heap.size + 2) 3 #[.int .i64 idx] := by
    have := Blk.new ((w.alloc (.cells #[.int .i64 size] 3)).alloc (.cells #[.slice va vn vc] 22)) 3 #[.int .i64 idx]
    simpa using this
  have HS := Lib.hid hs
  have HT := Lib.hid ht
  clear hs ht
  by_cases hcb : canB size seed.length idx = true
  · have hcI : 1 ≤ size ∧ size ≤ 32 := by unfold canB at hcb; have := of_decide_eq_true hcb; omega
    rw [hcb] at HC HE HL
    rw [if_pos rfl] at HE HL
    rw [HE.out, HL.out]
    obtain ⟨n, rfl⟩ : ∃ n : Nat, size = n := ⟨size.toNat, by omega⟩
    rw [Int.toNat_natCast]
    clear hcb
    go_enter Tryd.func154, Tryd.ntmps154
    go_wp2_with fail
    generalize (((w.alloc (.cells #[.int .i64 n] 3)).alloc (.cells #[.slice va vn vc] 22)).alloc (.cells #[.int .i64 idx] 3)) = w3 at *
    refine (HC.out w3 hb3).mono ?_
    rintro e w4 ⟨rfl, rfl⟩
    have q1 := k1.cell 0
    have q2 := k2.cell 0
    have q3 := k3.cell 0
    go_wp2_with fail
    refine (endKey_any w.heap.size (w.heap.size + 1) (w.heap.size + 2) n (by omega) idx hx0 hx1 (endK n seed idx) (endK_isB _ _ _) (endK_len _ _ _) (fun wx => Below w3.heap.size w3 wx) (fun wx wy h1 h2 => below_trans2 h1 h2) ?hK w3 (Below.refl _ _) (HT.out.below hb3)).mono ?_
    case hK =>
      intro i wx hi hbx
      exact key1_any n (.slice va vn vc) seed idx i _ _ _ wx hx0 hx1 (by omega) (k1.belowS hbx) (k2.belowS hbx) (k3.belowS hbx) hB ((HS.out.below hb3 (Nat.le_refl _)).below hbx (Nat.le_refl _)) ((HT.out.below hb3).below hbx)
    rintro e w4 ⟨x, rfl, hx, hb4⟩
    have hb4 := below_trans2 hb3 hb4
    clear k1 k2 k3 q1 q2 q3
    go_wp2
    go_ret2
    exact ⟨_, rfl, hx, hb4⟩
  · rw [if_neg hcb] at HE HL
    rw [Bool.not_eq_true] at hcb
    rw [hcb] at HC
    rw [HE.out, HL.out]
    clear hcb
    go_enter Tryd.func154, Tryd.ntmps154
    go_wp2_with fail
    generalize (((w.alloc (.cells #[.int .i64 size] 3)).alloc (.cells #[.slice va vn vc] 22)).alloc (.cells #[.int .i64 idx] 3)) = w3 at *
    refine (HC.out w3 hb3).mono ?_
    rintro e w4 ⟨rfl, rfl⟩
    go_wp2
    go_ret2
    exact ⟨_, rfl, Sl.nil _, hb3⟩

set_option maxRecDepth 100000 in
set_option maxHeartbeats 1000000 in
theorem refKey_any (size : Int) (v : Value) (seed : List Int) (idx : Int) (w : World) (hx0 : -9223372036854775808 ≤ idx) (hx1 : idx ≤ 9223372036854775807) (hB : IsB seed) (hs : Sl w v (seed.map (Value.int .u8))) :
    Calls Tryd.prog 71 #[.int .i64 size, v, .int .i64 idx] w fun e w' => ∃ x, e = .returned (.tuple #[x, .int .i64 (keyE size seed.length idx)]) ∧ Sl w' x ((keyL size seed idx).map (Value.int .u8)) ∧ Below w.heap.size w w' := by
  obtain ⟨i0, hi, hz0, hz1, hz2⟩ := info_parts info8c
  obtain ⟨va, vn, vc, rfl⟩ := hs.val
  have HC := Lib.hid (refCan_any size (.slice va vn vc) seed idx w hs)
  have HE := Lib.hid (show keyE size seed.length idx = if canB size seed.length idx = true then 0 else 1 from rfl)
  have HL := Lib.hid (show keyL size seed idx = if canB size seed.length idx = true then hashT size 8 [numI idx, catI (endK size seed idx) (4 * size.toNat + 5)] else [] from rfl)
  by_cases hcb : canB size seed.length idx = true
  · have hcI : 1 ≤ size ∧ size ≤ 32 := by unfold canB at hcb; have := of_decide_eq_true hcb; omega
    rw [hcb] at HC HE HL
    rw [if_pos rfl] at HE HL
    rw [HE.out, HL.out]
    obtain ⟨n, rfl⟩ : ∃ n : Nat, size = n := ⟨size.toNat, by omega⟩
    rw [Int.toNat_natCast]
    have HFL := Lib.hid (catI_len (endK_len (n : Int) seed idx))
    have HF1 := Lib.hid (endK_len (n : Int) seed idx)
    have HCB := Lib.hid (catI_isB (endK_isB (n : Int) seed idx) (4 * n + 5))
    clear hcb
    go_enter Tryd.func71, Tryd.ntmps71
    go_wp2_with fail
    refine HC.out.mono ?_
    rintro e w1 ⟨rfl, rfl⟩
    go_wp2
    go_loopw [8, 18] (fun l i wr => ∃ (k : Nat) (lv : Value), lv = l ∧ k ≤ 4 * n + 5 ∧ i = .int .i64 k ∧ wr.ownsRow w.heap.size 5 1 lv (catI (endK n seed idx) k).length ((catI (endK n seed idx) k).map (Value.int .u8)) ∧ Below w.heap.size w wr) (fun _ i _ => 4 * n + 5 - (intOf i).toNat)
    case atStart => exact ⟨0, _, rfl, by omega, rfl, World.ownsRow_nil _ _ _ _, Below.refl _ _⟩
    case round =>
      obtain ⟨k, l, rfl, hk, rfl, hown, hbr⟩ := hrel
      by_cases hlt : k < 4 * n + 5
      · have hkI : (k : Int) < 4 * (n : Int) + 5 := by omega
        have HLN := Lib.hid (show (catI (endK n seed idx) k).length + (endK n seed idx k).length ≤ 100000 by have := HFL.out k; have := HF1.out k; omega)
        have HEK := Lib.hid (show chI n idx k 0 (secI n seed idx k) 3 = endK n seed idx k from rfl)
        go_wp2_with fail
        refine (refSecret_any n (.slice va vn vc) seed idx k wr hx0 hx1 (by omega) (by omega) hB (hs.below hbr (Nat.le_refl _))).mono ?_
        rintro e w2 ⟨x1, rfl, hx1', hb2⟩
        have hown := ownsRow_below hown hb2 (Nat.le_refl _)
        have hbr := hbr.trans (hb2.mono hbr.size)
        clear hb2
        go_wp2_with fail
        refine (refChain03_any n x1 _ idx k w2 hx0 hx1 (by omega) (by omega) (by have := secI_len n seed idx k; omega) (secI_isB _ _ _ _) hx1').mono ?_
        rintro e w3 ⟨x2, rfl, hx2, hb3⟩
        rw [HEK.out] at hx2
        have hown := ownsRow_below hown hb3 (Nat.le_refl _)
        have hbr := hbr.trans (hb3.mono hbr.size)
        clear hb3 hx1'
        obtain ⟨xa, xn, xc, rfl⟩ := hx2.val
        go_wp2_with (at_builtin; refine wpList_append_sl rfl _ _ 22 rfl w.heap.size 5 i0 (.int .u8 0) 1 Tryd.underlying22 hi hz0 hz1 hz2 rfl _ _ _ rfl hown (.slice xa xn xc) ((endK n seed idx k).map (Value.int .u8)) rfl hx2 (one8 _) (by have := HLN.out; rw [List.length_map]; unfold maxLen; omega) (by have := HLN.out; rw [List.length_map]; omega) hbr.size ?_)
        intro v3 w4 hown3 hg3
        have hb3 := below_grown hbr hown (Nat.le_refl _) hbr.size hg3
        clear hg3 hown hx2 hbr
        go_wp2
        go_roundw
        case rel => exact ⟨k + 1, v3, rfl, by omega, by go_num, by simpa [catI] using hown3, hb3⟩
        case measure => simp [intOf]; omega
      · obtain rfl : k = 4 * n + 5 := by omega
        have hkI : ¬ 4 * (n : Int) + 5 < 4 * (n : Int) + 5 := by omega
        have hs2 := Sl.of_owns hown
        clear hown
        go_wp2_with fail
        refine (refKey0_any n idx _ _ wr hx0 hx1 HCB.out hs2).mono ?_
        rintro e w2 ⟨y, rfl, hy, hb2⟩
        have hbr := hbr.trans (hb2.mono hbr.size)
        go_wp2
        go_ret2
        exact ⟨_, rfl, hy, hbr⟩
  · rw [if_neg hcb] at HE HL
    rw [Bool.not_eq_true] at hcb
    rw [hcb] at HC
    rw [HE.out, HL.out]
    clear hcb
    go_enter Tryd.func71, Tryd.ntmps71
    go_wp2_with fail
    refine HC.out.mono ?_
    rintro e w1 ⟨rfl, rfl⟩
    go_wp2
    go_ret2
    exact ⟨_, rfl, Sl.nil _, Below.refl _ _⟩


end Go.Proofs.YtililoojjfcfgaaDoor
