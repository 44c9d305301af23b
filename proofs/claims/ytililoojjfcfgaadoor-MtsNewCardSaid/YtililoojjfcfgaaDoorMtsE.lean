/- Trees of signing keys: the law's awake; keys that no call made. -/
import Derived.Test.YtililoojjfcfgaaDoorMtsD
import Derived.Test.YtililoojjfcfgaaDoorSig1
namespace Go.Proofs.YtililoojjfcfgaaDoor
open Go.RowKit
set_option linter.unusedVariables false

theorem hashT_full (size tag : Int) (pss : List (List Int)) (h0 : 1 ≤ size) (h1 : size ≤ 32) (t0 : 0 ≤ tag) (t1 : tag ≤ 255) (h : ∀ p ∈ pss, p.length ≤ 65535) : (hashT size tag pss).length = size.toNat := by
  have hc : codeT tag pss = 0 := by
    unfold codeT
    rw [if_neg (by omega), if_neg (by rintro ⟨p, hp, hq⟩; have := h p hp; omega)]
  unfold hashT
  rw [if_pos hc]
  unfold cutI
  rw [List.length_take, sumI_len]
  omega
theorem numI_len (n : Int) : (numI n).length = 8 := by simp [numI]
theorem pairT_full (size l p : Int) (x y : List Int) (h0 : 1 ≤ size) (h1 : size ≤ 32) (hx : x.length ≤ 65535) (hy : y.length ≤ 65535) : (pairT size l p x y).length = size.toNat := by
  refine hashT_full size 9 _ h0 h1 (by decide) (by decide) fun q hq => ?_
  simp only [List.mem_cons, List.not_mem_nil, or_false] at hq
  rcases hq with rfl | rfl | rfl | rfl
  · rw [numI_len]; omega
  · rw [numI_len]; omega
  · exact hx
  · exact hy
theorem keyL_full (size : Int) (seed : List Int) (idx : Int) (h0 : 1 ≤ size) (h1 : size ≤ 32) (hs : seed.length ≤ 64) (hi0 : 0 ≤ idx) (hi1 : idx < 256) : (keyL size seed idx).length = size.toNat := by
  unfold keyL
  rw [if_pos (by unfold canB; exact decide_eq_true (by omega))]
  refine hashT_full size 8 _ h0 h1 (by decide) (by decide) fun q hq => ?_
  simp only [List.mem_cons, List.not_mem_nil, or_false] at hq
  rcases hq with rfl | rfl
  · rw [numI_len]; omega
  · have := catI_len (endK_len size seed idx) (4 * size.toNat + 5)
    omega
theorem getD_short {L : List (List Int)} (h : ∀ p ∈ L, p.length ≤ 32) (k : Nat) : (L.getD k []).length ≤ 32 := by
  rw [List.getD_eq_getElem?_getD]
  rcases Nat.lt_or_ge k L.length with hk | hk
  · rw [List.getElem?_eq_getElem hk]; exact h _ (List.getElem_mem _)
  · rw [List.getElem?_eq_none hk]; simp
/-- Every hash of a tree has its size. -/
theorem lvI_full (n : Nat) (seed : List Int) (h : Nat) (h0 : 1 ≤ n) (h1 : n ≤ 32) (hs : seed.length ≤ 64) (hh : h ≤ 8) : ∀ l, ∀ p ∈ lvI n seed h l, p.length = n
  | 0 => by
    intro p hp
    simp only [lvI, botI, List.mem_map, List.mem_range] at hp
    obtain ⟨i, hi, rfl⟩ := hp
    have : 2 ^ h ≤ 2 ^ 8 := Nat.pow_le_pow_right (by omega) hh
    rw [keyL_full _ _ _ (by omega) (by omega) hs (by omega) (by omega)]; omega
  | l + 1 => by
    intro p hp
    simp only [lvI, upI, List.mem_map] at hp
    obtain ⟨i, _, rfl⟩ := hp
    have a1 := getD_short (lvI_short n seed h l) (2 * i)
    have a2 := getD_short (lvI_short n seed h l) (2 * i + 1)
    unfold upA
    rw [pairT_full _ _ _ _ _ (by omega) (by omega) (by omega) (by omega)]; omega

set_option maxRecDepth 100000 in
set_option maxHeartbeats 2000000 in
theorem awake06_any (w : World) (ht : Tabs w) : Calls Tryd.prog 30 #[] w fun e w' => e = .returned (.bool true) ∧ Below w.heap.size w w' := by
  have HN := Lib.hid (mnew_ok 2 1 [] (.slice none 0 0) w (by decide) (by decide) (by decide) (by decide) (Sl.nil _))
  have HT := Lib.hid ht
  clear ht
  go_enter Tryd.func30, Tryd.ntmps30
  go_wp2_with fail
  refine HN.out.mono ?_
  rintro e w2 ⟨g, rfl, hg, hk, hb⟩
  have HP := Lib.hid (public_any 2 1 g [] w2 (by decide) (by decide) (by decide) (by intro x hx; cases hx) hk (HT.out.below hb))
  have HL := Lib.hid (lvI_full 2 [] 1 (by decide) (by decide) (by simp) (by decide) 1 _ (getD_mem (l := lvI (2 : Nat) [] 1 1) (k := 0) (by rw [lvI_len]; decide)))
  generalize (lvI (2 : Nat) [] 1 1).getD 0 [] = X at *
  clear hk
  go_wp2_with fail
  refine HP.out.mono ?_
  rintro e w3 ⟨x, rfl, hx, hk3, hg3⟩
  obtain ⟨xa, xc, rfl, _, _⟩ := hx.shape
  rw [List.length_map, HL.out]
  have hbE := below_of_only hb hg3 hg hb.size
  clear hx hk3 hg3
  go_wp2
  go_ret
  exact ⟨rfl, hbE⟩

/-- Keys that no call made. -/
def NoK (w : World) (p : Value) : Prop := p = .pointer none ∨ ∃ g, p = .pointer (some ⟨g, 0, none⟩) ∧ w.cell? ⟨g, 0, none⟩ = some (.int .i64 0)

theorem mnone_no (p : Value) (w : World) (hk : NoK w p) :
    Calls Tryd.prog 81 #[p] w fun e w' => e = .returned (.bool true) ∧ w = w' := by
  rcases hk with rfl | ⟨g, rfl, c0⟩
  · go_enter Tryd.func81, Tryd.ntmps81
    go_wp2
    go_ret
    exact ⟨rfl, rfl⟩
  · go_enter Tryd.func81, Tryd.ntmps81
    go_wp2
    go_ret
    exact ⟨rfl, rfl⟩

theorem public_no (p : Value) (w : World) (hk : NoK w p) :
    Calls Tryd.prog 38 #[p] w fun e w' => e = .returned (.slice none 0 0) ∧ w = w' := by
  have HN := Lib.hid (mnone_no p w hk)
  obtain ⟨q, rfl⟩ : ∃ q, p = .pointer q := by rcases hk with rfl | ⟨g, rfl, _⟩ <;> exact ⟨_, rfl⟩
  clear hk
  go_enter Tryd.func38, Tryd.ntmps38
  go_wp2_with fail
  refine HN.out.mono ?_
  rintro e w1 ⟨rfl, rfl⟩
  go_wp2
  go_ret
  exact ⟨rfl, rfl⟩

set_option maxRecDepth 100000 in
set_option maxHeartbeats 2000000 in
theorem sign_no (p : Value) (idx : Int) (vd : Value) (w : World) (hk : NoK w p) :
    Calls Tryd.prog 37 #[p, .int .i64 idx, vd] w fun e w' => e = .returned (.tuple #[.agg #[.int .i64 0, .slice none 0 0, .slice none 0 0], .int .i64 2]) ∧ Below w.heap.size w w' := by
  have HN := Lib.hid (fun w' (hb : Below w.heap.size w w') => mnone_no p w' (by
    rcases hk with rfl | ⟨g, rfl, c0⟩
    · exact .inl rfl
    · refine .inr ⟨g, rfl, ?_⟩
      rw [hb.cell (p := ⟨g, 0, none⟩) (by
        rcases Nat.lt_or_ge g w.heap.size with hlt | hge
        · exact hlt
        · simp [World.cell?, Array.getElem?_eq_none hge] at c0)]
      exact c0))
  obtain ⟨q, rfl⟩ : ∃ q, p = .pointer q := by rcases hk with rfl | ⟨g, rfl, _⟩ <;> exact ⟨_, rfl⟩
  have hbA : Below w.heap.size w (w.alloc (.cells #[.int .i64 0, .slice none 0 0, .slice none 0 0] 61)) := (Below.refl _ _).alloc (Nat.le_refl _) _
  have kA := Blk.new w 61 #[.int .i64 0, .slice none 0 0, .slice none 0 0]
  obtain ⟨z0, z1, z2⟩ := rec3 kA
  clear hk
  go_enter Tryd.func37, Tryd.ntmps37
  go_wp2_with fail
  refine (HN.out _ hbA).mono ?_
  rintro e w1 ⟨rfl, rfl⟩
  go_wp2
  exact bodyPost_ret (by rw [results_cell_tmp rfl]; go_simp) rfl ⟨rfl, hbA⟩

set_option maxRecDepth 100000 in
set_option maxHeartbeats 4000000 in
theorem mtsNobody_walk (idx : Int) (v : Value) (bs : List Int) (w : World) (ht : Tabs w) (hi0 : -9223372036854775808 ≤ idx) (hi1 : idx ≤ 9223372036854775807) (hB : IsB bs) (hs : Sl w v (bs.map (Value.int .u8))) (hl : bs.length ≤ 140737488351232) :
    Calls Tryd.prog 8 #[.int .i64 idx, v] w fun e w' => e = .returned (.bool true) ∧ Below w.heap.size w w' := by
  have HT := Lib.hid ht
  clear ht hs hB hl
  have hb1 : Below w.heap.size w (w.alloc (.cells #[.int .i64 0, .int .i64 0, .slice none 0 0, .int .u32 0, .int .i32 0, .int .u32 0, .slice none 0 0] 82)) := (Below.refl _ _).alloc (Nat.le_refl _) _
  have hb2 : Below w.heap.size w ((w.alloc (.cells #[.int .i64 0, .int .i64 0, .slice none 0 0, .int .u32 0, .int .i32 0, .int .u32 0, .slice none 0 0] 82)).alloc (.cells #[.pointer none, .pointer (some ⟨w.heap.size, 0, none⟩)] 48)) := hb1.alloc hb1.size _
  have k1 : Blk ((w.alloc (.cells #[.int .i64 0, .int .i64 0, .slice none 0 0, .int .u32 0, .int .i32 0, .int .u32 0, .slice none 0 0] 82)).alloc (.cells #[.pointer none, .pointer (some ⟨w.heap.size, 0, none⟩)] 48)) w.heap.size 82 #[.int .i64 0, .int .i64 0, .slice none 0 0, .int .u32 0, .int .i32 0, .int .u32 0, .slice none 0 0] := (Blk.new w _ _).alloc _
  have k2 := Blk.new (w.alloc (.cells #[.int .i64 0, .int .i64 0, .slice none 0 0, .int .u32 0, .int .i32 0, .int .u32 0, .slice none 0 0] 82)) 48 #[.pointer none, .pointer (some ⟨w.heap.size, 0, none⟩)]
  rw [World.size_alloc] at k2
  go_enter Tryd.func8, Tryd.ntmps8
  go_wp2
  generalize ((w.alloc (.cells #[.int .i64 0, .int .i64 0, .slice none 0 0, .int .u32 0, .int .i32 0, .int .u32 0, .slice none 0 0] 82)).alloc (.cells #[.pointer none, .pointer (some ⟨w.heap.size, 0, none⟩)] 48)) = w2 at *
  go_loopw [6, 7, 8, 13] (fun _ _ _ i wr => ∃ k : Nat, k ≤ 2 ∧ i = .int .i64 k ∧ Below w2.heap.size w2 wr) (fun _ _ _ i _ => 2 - (intOf i).toNat)
  case atStart => exact ⟨0, by omega, rfl, Below.refl _ _⟩
  case round =>
    obtain ⟨k, hk, rfl, hbr⟩ := hrel
    have k1 := k1.belowS hbr
    have k2 := k2.belowS hbr
    have c0 : wr.cell? ⟨w.heap.size + 1, 0, none⟩ = some (.pointer none) := k2.cell 0
    have c1 : wr.cell? ⟨w.heap.size + 1, 1, none⟩ = some (.pointer (some ⟨w.heap.size, 0, none⟩)) := k2.cell 1
    have HN0 := Lib.hid (show NoK wr (.pointer none) from .inl rfl)
    have HN1 := Lib.hid (show NoK wr (.pointer (some ⟨w.heap.size, 0, none⟩)) from .inr ⟨_, rfl, k1.cell 0⟩)
    have HNB := Lib.hid (fun p w' (h : NoK wr p) (hb : Below wr.heap.size wr w') => show NoK w' p from (by
      rcases h with rfl | ⟨g, rfl, c⟩
      · exact .inl rfl
      · refine .inr ⟨g, rfl, ?_⟩
        rw [hb.cell (p := ⟨g, 0, none⟩) (by
          rcases Nat.lt_or_ge g wr.heap.size with hlt | hge
          · exact hlt
          · simp [World.cell?, Array.getElem?_eq_none hge] at c)]
        exact c))
    have HBR := Lib.hid hbr
    clear hbr k1 k2
    obtain rfl | rfl | rfl : k = 0 ∨ k = 1 ∨ k = 2 := by omega
    · clear hk
      simp only [Int.cast_ofNat_Int]
      go_wp2_with fail
      refine (sign_no (.pointer none) idx v wr HN0.out).mono ?_
      rintro e w3 ⟨rfl, hb3⟩
      have hbA : Below w3.heap.size w3 (w3.alloc (.cells #[.int .i64 0, .slice none 0 0, .slice none 0 0] 61)) := (Below.refl _ _).alloc (Nat.le_refl _) _
      obtain ⟨z0, z1, z2⟩ := rec3 (Blk.new w3 61 #[.int .i64 0, .slice none 0 0, .slice none 0 0])
      have hN := HNB.out _ _ HN0.out (below_trans2 hb3 hbA)
      go_wp2_with fail
      refine (public_no (.pointer none) _ hN).mono ?_
      rintro e w4 ⟨rfl, rfl⟩
      go_wp2
      go_roundw
      case rel => exact ⟨1, by omega, rfl, HBR.out.trans ((below_trans2 hb3 hbA).mono HBR.out.size)⟩
      case measure => simp [intOf]
    · clear hk
      simp only [Int.cast_ofNat_Int]
      go_wp2_with fail
      refine (sign_no (.pointer (some ⟨w.heap.size, 0, none⟩)) idx v wr HN1.out).mono ?_
      rintro e w3 ⟨rfl, hb3⟩
      have hbA : Below w3.heap.size w3 (w3.alloc (.cells #[.int .i64 0, .slice none 0 0, .slice none 0 0] 61)) := (Below.refl _ _).alloc (Nat.le_refl _) _
      obtain ⟨z0, z1, z2⟩ := rec3 (Blk.new w3 61 #[.int .i64 0, .slice none 0 0, .slice none 0 0])
      have hN := HNB.out _ _ HN1.out (below_trans2 hb3 hbA)
      go_wp2_with fail
      refine (public_no (.pointer (some ⟨w.heap.size, 0, none⟩)) _ hN).mono ?_
      rintro e w4 ⟨rfl, rfl⟩
      go_wp2
      go_roundw
      case rel => exact ⟨2, by omega, rfl, HBR.out.trans ((below_trans2 hb3 hbA).mono HBR.out.size)⟩
      case measure => simp [intOf]
    · simp only [Int.cast_ofNat_Int]
      have hbw := hb2.trans (HBR.out.mono hb2.size)
      go_wp2_with fail
      refine (awake06_any wr (HT.out.below hbw)).mono ?_
      rintro e w3 ⟨rfl, hb3⟩
      go_wp2
      go_ret
      exact ⟨rfl, below_trans2 hbw hb3⟩

end Go.Proofs.YtililoojjfcfgaaDoor
