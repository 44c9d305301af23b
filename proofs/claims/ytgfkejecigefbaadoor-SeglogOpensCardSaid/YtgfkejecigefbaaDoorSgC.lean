
/- seglog.laid: the walk (printed by gen_sgc.py). Conditions: none. -/
import Derived.Test.YtgfkejecigefbaaDoorSgB
import Derived.Test.YtgfkejecigefbaaDoorInv
namespace Go.Proofs.YtgfkejecigefbaaDoor
open Go.RowKit
set_option linter.unusedVariables false

theorem needs_sg {ops : Array Oper} {i j : Nat} (h : (needs ops i).contains j = true) : j ∈ needs ops i := List.contains_iff_mem.1 h
theorem cell_freeze (w : World) (p : Addr) (n : Nat) (a : Addr) : (w.freeze p n).cell? a = w.cell? a := by
  unfold World.freeze
  split
  · rfl
  · unfold World.cell?
    simp only [Array.getElem?_modify]
    by_cases e : p.block = a.block
    · rw [if_pos e]
      cases hq : w.heap[a.block]? with
      | none => rfl
      | some o => cases o <;> rfl
    · rw [if_neg e]
theorem size_freeze (w : World) (p : Addr) (n : Nat) : (w.freeze p n).heap.size = w.heap.size := by
  unfold World.freeze
  split
  · rfl
  · simp
theorem Sl.freeze {w : World} {v : Value} {xs : List Value} (h : Sl w v xs) (p : Addr) (n : Nat) : Sl (w.freeze p n) v xs := by
  obtain ⟨a, cap, rfl, h1, h2, h3⟩ := h
  refine ⟨a, cap, rfl, h1, h2, fun hp => ?_⟩
  obtain ⟨b, off, rfl, hlt, hc⟩ := h3 hp
  exact ⟨b, off, rfl, by rw [size_freeze]; exact hlt, fun j u hu => (cell_freeze _ _ _ _).trans (hc j u hu)⟩
theorem Sls.freeze {w : World} {v : Value} {pss : List (List Int)} (h : Sls w v pss) (p : Addr) (n : Nat) : Sls (w.freeze p n) v pss := by
  obtain ⟨vs, h1, h2, h3⟩ := h
  exact ⟨vs, h1.freeze p n, h2, fun i u bs hu hp => (h3 i u bs hu hp).freeze p n⟩
theorem below_frz {B : Nat} {a w : World} (h : Below B a w) {p : Addr} (hp : B ≤ p.block) (n : Nat) : Below B a (w.freeze p n) := by
  refine h.trans ?_
  unfold World.freeze
  split
  · exact Below.refl B w
  · exact ⟨rfl, rfl, rfl, by simp, fun k hk => by
      simp only [Array.getElem?_modify]
      rw [if_neg (by omega)]⟩
theorem run_convert_frz (w : World) (g : Nat) (C : Array Value) (n c : Nat) (hC : Blk w g 5 C) :
    (convert 26 26 (.slice (some ⟨g, 0, none⟩) n c)).run Tryd.prog w = .ok (.slice (some ⟨g, 0, none⟩) n c) (w.freeze ⟨g, C.size, none⟩ 1) := by
  have hsh : w.shape? g = some (5, C.size) := by
    unfold World.shape?
    rw [show w.heap[g]? = _ from hC]
  simp [convert, run_underlying Tryd.underlying26, run_underlying Tryd.underlying5, markStringish, hsh]
def zer6 : Array Value := Array.replicate 6 (Value.int .u8 0)
theorem run_make6 (w : World) : (Instr.makeSlice 26 (.int .i64 6) (.int .i64 6)).run Tryd.prog w = .ok (.slice (some ⟨w.heap.size, 0, none⟩) 6 6) (w.alloc (.cells zer6 5)) := run_make_bytes 6 (by omega) w
theorem sl_make6 (w : World) : Sl (w.alloc (.cells zer6 5)) (.slice (some ⟨w.heap.size, 0, none⟩) 6 6) ((List.replicate 6 (0 : Int)).map (Value.int .u8)) := by have h := Sl.lit w zer6 5 (by simp [maxLen, zer6]); simpa [zer6] using h
def markQ (n : Int) (T : Nat) (sm : List Int) : List Int := alB ++ (numI n ++ (fourI T ++ sm))
theorem markQ_len (n : Int) (T : Nat) (sm : List Int) : (markQ n T sm).length = 20 + sm.length := by simp [markQ, numI_len, fourI_len, alB]; omega
abbrev LmAct (n : Int) (T : Nat) (ta : Option Addr) (tc : Nat) (sm : List Int) (x1 x2 x3 x6 x8 x9 x10 x11 x12 x13 x14 x15 x16 x17 x18 x19 : Value) (u : Nat → Value) : Act := { tmps := #[.int .i64 n, x1, x2, x3, .slice none 0 0, .slice ta T tc, x6, u 7, x8, x9, x10, x11, x12, x13, x14, x15, x16, x17, x18, x19, u 20, u 21, u 22, u 23, u 24, u 25, u 26, u 27, u 28, u 29, u 30, u 31, undef, undef, undef], defers := [] }
structure LmT (n : Int) (T : Nat) (ta : Option Addr) (tc : Nat) (sm : List Int) (x1 x2 x3 x6 x8 x9 x10 x11 x12 x13 x14 x15 x16 x17 x18 x19 : Value) (W : World) (D : Nat → Bool) (u : Nat → Value) (w : World) : Prop where
  bel : Below W.heap.size W w
  s0 : D 0 = true → ∃ g, u 20 = .slice (some ⟨g, 0, none⟩) 2 2 ∧ W.heap.size ≤ g ∧ (D 1 = false → Blk w g 5 #[.int .u8 65, .int .u8 76]) ∧ Sl w (u 20) (([65, 76]).map (Value.int .u8))
  s1 : D 1 = true → Sl w (u 21) (([65, 76]).map (Value.int .u8))
  s2 : D 2 = true → Sl w (u 22) (((List.replicate 6 (0 : Int))).map (Value.int .u8))
  s3 : D 3 = true → u 23 = .int .i64 n
  s4 : D 4 = true → Sl w (u 24) ((numI n).map (Value.int .u8))
  s5 : D 5 = true → u 25 = .slice ta T tc
  s6 : D 6 = true → u 26 = .int .i64 T
  s7 : D 7 = true → Sl w (u 27) ((fourI T).map (Value.int .u8))
  s8 : D 8 = true → u 28 = x6
  s9 : D 9 = true → Sls w (u 29) [[65, 76], List.replicate 6 (0 : Int), numI n, fourI T, sm]
  s10 : D 10 = true → Sl w (u 30) ((markQ n T sm).map (Value.int .u8))
  s11 : D 11 = true → OBs w W.heap.size (u 31) (cut64 (markQ n T sm))
  s12 : D 12 = true → OBs w W.heap.size (u 7) (cut64 (markQ n T sm))
theorem LmT.grow {n : Int} {T : Nat} {ta : Option Addr} {tc : Nat} {sm : List Int} {x1 x2 x3 x6 x8 x9 x10 x11 x12 x13 x14 x15 x16 x17 x18 x19 : Value} {W : World} {D : Nat → Bool} {u : Nat → Value} {w w' : World} (h : LmT n T ta tc sm x1 x2 x3 x6 x8 x9 x10 x11 x12 x13 x14 x15 x16 x17 x18 x19 W D u w) (hb : Below w.heap.size w w') : LmT n T ta tc sm x1 x2 x3 x6 x8 x9 x10 x11 x12 x13 x14 x15 x16 x17 x18 x19 W D u w' :=
  ⟨below_trans2 h.bel hb, (fun q => by have h := h.s0 q; exact ((by obtain ⟨g, e1, e2, e3, e4⟩ := h; exact ⟨g, e1, e2, fun q => (e3 q).belowS hb, e4.below hb (Nat.le_refl _)⟩))), (fun q => by have h := h.s1 q; exact (h.below hb (Nat.le_refl _))), (fun q => by have h := h.s2 q; exact (h.below hb (Nat.le_refl _))), h.s3, (fun q => by have h := h.s4 q; exact (h.below hb (Nat.le_refl _))), h.s5, h.s6, (fun q => by have h := h.s7 q; exact (h.below hb (Nat.le_refl _))), h.s8, (fun q => by have h := h.s9 q; exact (h.below hb (Nat.le_refl _))), (fun q => by have h := h.s10 q; exact (h.below hb (Nat.le_refl _))), (fun q => by have h := h.s11 q; exact (h.below hb)), (fun q => by have h := h.s12 q; exact (h.below hb))⟩
def LmInv (n : Int) (T : Nat) (ta : Option Addr) (tc : Nat) (sm : List Int) (x1 x2 x3 x6 x8 x9 x10 x11 x12 x13 x14 x15 x16 x17 x18 x19 : Value) (W : World) (D : Nat → Bool) (a : Act) (w : World) : Prop := ∃ u, a = LmAct n T ta tc sm x1 x2 x3 x6 x8 x9 x10 x11 x12 x13 x14 x15 x16 x17 x18 x19 u ∧ LmT n T ta tc sm x1 x2 x3 x6 x8 x9 x10 x11 x12 x13 x14 x15 x16 x17 x18 x19 W D u w
structure LmF (n : Int) (T : Nat) (ta : Option Addr) (tc : Nat) (sm : List Int) (x6 : Value) (W : World) (D : Nat → Bool) (u : Nat → Value) (w : World) : Prop where
  bel : Below W.heap.size W w
  s1 : D 1 = true → Sl w (u 21) (([65, 76]).map (Value.int .u8))
  s2 : D 2 = true → Sl w (u 22) (((List.replicate 6 (0 : Int))).map (Value.int .u8))
  s3 : D 3 = true → u 23 = .int .i64 n
  s4 : D 4 = true → Sl w (u 24) ((numI n).map (Value.int .u8))
  s5 : D 5 = true → u 25 = .slice ta T tc
  s6 : D 6 = true → u 26 = .int .i64 T
  s7 : D 7 = true → Sl w (u 27) ((fourI T).map (Value.int .u8))
  s8 : D 8 = true → u 28 = x6
  s9 : D 9 = true → Sls w (u 29) [[65, 76], List.replicate 6 (0 : Int), numI n, fourI T, sm]
  s10 : D 10 = true → Sl w (u 30) ((markQ n T sm).map (Value.int .u8))
  s11 : D 11 = true → OBs w W.heap.size (u 31) (cut64 (markQ n T sm))
  s12 : D 12 = true → OBs w W.heap.size (u 7) (cut64 (markQ n T sm))
theorem LmT.frz {n : Int} {T : Nat} {ta : Option Addr} {tc : Nat} {sm : List Int} {x1 x2 x3 x6 x8 x9 x10 x11 x12 x13 x14 x15 x16 x17 x18 x19 : Value} {W : World} {D : Nat → Bool} {u : Nat → Value} {w : World} (h : LmT n T ta tc sm x1 x2 x3 x6 x8 x9 x10 x11 x12 x13 x14 x15 x16 x17 x18 x19 W D u w) (p : Addr) (k : Nat) (hp : W.heap.size ≤ p.block) (h11 : D 11 = false) (h12 : D 12 = false) : LmF n T ta tc sm x6 W D u (w.freeze p k) :=
  ⟨below_frz h.bel hp k, (fun q => (h.s1 q).freeze p k), (fun q => (h.s2 q).freeze p k), h.s3, (fun q => (h.s4 q).freeze p k), h.s5, h.s6, (fun q => (h.s7 q).freeze p k), h.s8, (fun q => (h.s9 q).freeze p k), (fun q => (h.s10 q).freeze p k), (fun q => by rw [h11] at q; cases q), (fun q => by rw [h12] at q; cases q)⟩

set_option maxRecDepth 100000 in
set_option maxHeartbeats 4000000 in
theorem laid_any (n : Int) (v : Value) (bs : List Int) (w : World) (hn0 : -9223372036854775808 ≤ n) (hn1 : n ≤ 9223372036854775807) (hl : bs.length ≤ 4000) (hB : IsB bs) (ht : Tabs w) (h : Sl w v (bs.map (Value.int .u8))) :
    Calls Tryd.prog 35 #[.int .i64 n, v] w fun e w' => ∃ x, e = .returned x ∧ OBs w' w.heap.size x (laidI n bs) ∧ Below w.heap.size w w' := by
  obtain ⟨a, cp, rfl, hc, hm⟩ := h.shape
  rw [List.length_map] at *
  have HH := Lib.hid h
  have HN := Lib.hid (number_any n w hn0 hn1)
  have HF := Lib.hid (fun w' => sfour_any (bs.length : Nat) w' (by omega) (by omega))
  have HT := Lib.hid ht
  have HTL := Lib.hid (textS_len n bs)
  have HTB := Lib.hid (textS_isB n hB)
  have HT6 := Lib.hid (textS_64 n bs)
  have HHL := Lib.hid (headT_len n bs)
  have HLE := Lib.hid hl
  have HLI := Lib.hid (show laidI n bs = textS n bs ++ cut64 (markQ n (textS n bs).length (sumI (textS n bs).flatten)) from rfl)
  have HHT := Lib.hid (show [numI n, fourI (bs.length : Nat), bs].flatten = headT n bs from by simp [headT])
  have HTS := Lib.hid (show textS n bs = cut64 (headT n bs) from rfl)
  clear h ht hl hB
  go_enter Tryd.func35, Tryd.ntmps35
  go_wp2_with fail
  refine HN.out.mono ?_
  rintro e w1 ⟨x1, rfl, hx1, hb1⟩
  go_wp2_with fail
  refine (HF.out w1).mono ?_
  rintro e w2 ⟨x2, rfl, hx2, hb2⟩
  have hx1 := hx1.below hb2 (Nat.le_refl _)
  have hbw2 := below_trans2 hb1 hb2
  have hx3 := HH.out.below hbw2 (Nat.le_refl _)
  obtain ⟨a1, n1, c1, rfl⟩ := hx1.val
  obtain ⟨a2, n2, c2, rfl⟩ := hx2.val
  have hall : SlAll w2 [.slice a1 n1 c1, .slice a2 n2 c2, .slice a bs.length cp] [numI n, fourI (bs.length : Nat), bs] := ⟨hx1, hx2, hx3, trivial⟩
  have HL := Lib.hid (Sls.litA _ 26 hall (by simp [maxLen]))
  have HB3 := Lib.hid (hbw2.trans ((show Below w2.heap.size w2 (w2.alloc (.cells #[.slice a1 n1 c1, .slice a2 n2 c2, .slice a bs.length cp] 26)) from (Below.refl _ _).alloc (Nat.le_refl _) _).mono hbw2.size))
  have HCC := Lib.hid (concat_any _ _ _ (by rw [HHT.out, HHL.out]; have := HLE.out; omega) HL.out)
  rw [HHT.out] at HCC
  clear hx1 hx2 hx3 hb1 hb2 hbw2 hall HN HF
  go_wp2_with fail
  refine HCC.out.mono ?_
  rintro e w3 ⟨x3, rfl, hx3, hb3⟩
  have HCU := Lib.hid (scut_any x3 (headT n bs) w3 (by rw [HHL.out]; omega) (by rw [HHL.out]; have := HLE.out; omega) (Sl.of_owns hx3))
  rw [← HTS.out] at HCU
  have HB4 := Lib.hid (below_trans2 HB3.out hb3)
  clear hx3 hb3 HCC
  go_wp2_with fail
  refine HCU.out.mono ?_
  rintro e w4 ⟨x4, rfl, hx4, hb4⟩
  have HB5 := Lib.hid (below_trans2 HB4.out hb4)
  obtain ⟨ta, tc, rfl⟩ := hx4.val
  have HX4 := Lib.hid (hx4.base HB4.out.size)
  have HCF := Lib.hid (concat_any _ _ _ (by rw [flat64_len HT6.out, HTL.out]; have := HLE.out; omega) hx4.sls)
  clear hx4 hb4 HCU HB4
  go_wp2_with fail
  refine HCF.out.mono ?_
  rintro e w5 ⟨x5, rfl, hx5, hb5⟩
  have HB6 := Lib.hid (below_trans2 HB5.out hb5)
  have HSU := Lib.hid (sum_any x5 _ w5 (by rw [flat64_len HT6.out, HTL.out]; have := HLE.out; omega) (flat_isB HTB.out).at (Sl.of_owns hx5) (HT.out.below HB6.out))
  have HX5 := Lib.hid (HX4.out.below hb5)
  clear hx5 hb5 HCF HB5 HX4
  go_wp2_with fail
  refine HSU.out.mono ?_
  rintro e w6 ⟨x6, rfl, hx6, hb6⟩
  have HB7 := Lib.hid (below_trans2 HB6.out hb6)
  have HX6 := Lib.hid (HX5.out.below hb6)
  obtain ⟨a8, n8, c8, rfl⟩ := hx6.val
  have HS := Lib.hid hx6
  have hsm : (sumI (textS n bs).flatten).length = 32 := sumI_len _
  have HTN := Lib.hid (show (textS n bs).length ≤ 64 from by rw [HTL.out]; have := HLE.out; omega)
  generalize sumI (textS n bs).flatten = sm at *
  generalize textS n bs = TS at *
  clear hx6 hb6 HSU HB6 HX5
  go_upto_region 3 with (fail)
  have hTN := HTN.out
  generalize hTe : TS.length = T at HTL HX6 HTN HLI hTN ⊢
  have HLT := Lib.hid hTe
  clear hTe
  refine wp_region_inv2 (LmInv n T ta tc sm (.slice a bs.length cp) undef undef (.slice a8 n8 c8) (.int .i64 n) (.slice a1 n1 c1) (.slice a bs.length cp) (.int .i64 bs.length) (.slice a2 n2 c2) (.slice a bs.length cp) (.slice (some ⟨w2.heap.size, 0, none⟩) 3 3) x3 (.slice ta T tc) (.slice ta T tc) x5 (.slice a8 n8 c8) w6) (by kernel_rfl) (by kernel_rfl) ?start ?step ?fin
  case start => exact ⟨fun _ => undef, rfl, ⟨(Below.refl _ _).drew, (fun q => by cases q), (fun q => by cases q), (fun q => by cases q), (fun q => by cases q), (fun q => by cases q), (fun q => by cases q), (fun q => by cases q), (fun q => by cases q), (fun q => by cases q), (fun q => by cases q), (fun q => by cases q), (fun q => by cases q), (fun q => by cases q)⟩⟩
  case step =>
    intro D a w i hi hI hD hcl hn
    obtain ⟨u, rfl, hX⟩ := hI
    have hi' : i < 13 := hi
    clear hi
    rcases (show i = 0 ∨ i = 1 ∨ i = 2 ∨ i = 3 ∨ i = 4 ∨ i = 5 ∨ i = 6 ∨ i = 7 ∨ i = 8 ∨ i = 9 ∨ i = 10 ∨ i = 11 ∨ i = 12 from by omega) with rfl | rfl | rfl | rfl | rfl | rfl | rfl | rfl | rfl | rfl | rfl | rfl | rfl
    · have hsz := hX.bel.size
      refine wpOp_plain rfl rfl ?_
      go_simp
      have hb2 : Below w.heap.size w (w.alloc (.cells #[.int .u8 65, .int .u8 76] 5)) := (Below.refl _ _).alloc (Nat.le_refl _) _
      have hX := hX.grow hb2
      exact ⟨upd u 20 (.slice (some ⟨w.heap.size, 0, none⟩) 2 2), rfl, ⟨hX.bel, fun _ => ⟨_, rfl, hsz, fun _ => Blk.new _ _ _, Sl.lit w #[.int .u8 65, .int .u8 76] 5 (by simp [maxLen])⟩, fun h => hX.s1 h, fun h => hX.s2 h, fun h => hX.s3 h, fun h => hX.s4 h, fun h => hX.s5 h, fun h => hX.s6 h, fun h => hX.s7 h, fun h => hX.s8 h, fun h => hX.s9 h, fun h => hX.s10 h, fun h => hX.s11 h, fun h => hX.s12 h⟩⟩
    · have d0 : D 0 = true := hn 0 (needs_sg (by kernel_rfl))
      have f0 := hX.s0 d0
      obtain ⟨g, e20, hg, hk, f20⟩ := f0
      have hcv := run_convert_frz w g _ 2 2 (hk hD)
      refine wpOp_plain rfl rfl ?_
      have g11 : D 11 = false := by
          cases q : D 11 with
          | false => rfl
          | true =>
            have q1 := hcl 11 10 q (needs_sg (by kernel_rfl))
            have q2 := hcl 10 9 q1 (needs_sg (by kernel_rfl))
            have q3 := hcl 9 1 q2 (needs_sg (by kernel_rfl))
            rw [hD] at q3; cases q3
      have g12 : D 12 = false := by
          cases q : D 12 with
          | false => rfl
          | true =>
            have q1 := hcl 12 11 q (needs_sg (by kernel_rfl))
            rw [g11] at q1; cases q1
      have hX := hX.frz ⟨g, 2, none⟩ 1 hg g11 g12
      go_simp
      exact ⟨upd u 21 (u 20), by simp [upd, e20], ⟨hX.bel, (fun _ => ⟨g, e20, hg, (fun q => by cases q), f20.freeze _ _⟩), fun _ => f20.freeze _ _, fun h => hX.s2 h, fun h => hX.s3 h, fun h => hX.s4 h, fun h => hX.s5 h, fun h => hX.s6 h, fun h => hX.s7 h, fun h => hX.s8 h, fun h => hX.s9 h, fun h => hX.s10 h, fun h => hX.s11 h, fun h => hX.s12 h⟩⟩
    · have hmk := run_make6 w
      refine wpOp_plain rfl rfl ?_
      go_simp
      have hb2 : Below w.heap.size w (w.alloc (.cells zer6 5)) := (Below.refl _ _).alloc (Nat.le_refl _) _
      have hX := hX.grow hb2
      exact ⟨upd u 22 (.slice (some ⟨w.heap.size, 0, none⟩) 6 6), rfl, ⟨hX.bel, fun h => hX.s0 h, fun h => hX.s1 h, fun _ => sl_make6 w, fun h => hX.s3 h, fun h => hX.s4 h, fun h => hX.s5 h, fun h => hX.s6 h, fun h => hX.s7 h, fun h => hX.s8 h, fun h => hX.s9 h, fun h => hX.s10 h, fun h => hX.s11 h, fun h => hX.s12 h⟩⟩
    · refine wpOp_plain rfl rfl ?_
      go_simp
      exact ⟨upd u 23 (.int .i64 n), rfl, ⟨hX.bel, fun h => hX.s0 h, fun h => hX.s1 h, fun h => hX.s2 h, fun _ => rfl, fun h => hX.s4 h, fun h => hX.s5 h, fun h => hX.s6 h, fun h => hX.s7 h, fun h => hX.s8 h, fun h => hX.s9 h, fun h => hX.s10 h, fun h => hX.s11 h, fun h => hX.s12 h⟩⟩
    · have d3 : D 3 = true := hn 3 (needs_sg (by kernel_rfl))
      have f3 := hX.s3 d3
      refine wpOp_plain rfl rfl ?_
      go_simp
      go_at_call 59
      refine (number_any n w hn0 hn1).mono ?_
      rintro e w3 ⟨x, rfl, hx, hb3⟩
      have hX := hX.grow hb3
      exact ⟨upd u 24 (x), by simp [upd, f3], ⟨hX.bel, fun h => hX.s0 h, fun h => hX.s1 h, fun h => hX.s2 h, fun h => hX.s3 h, fun _ => hx, fun h => hX.s5 h, fun h => hX.s6 h, fun h => hX.s7 h, fun h => hX.s8 h, fun h => hX.s9 h, fun h => hX.s10 h, fun h => hX.s11 h, fun h => hX.s12 h⟩⟩
    · refine wpOp_plain rfl rfl ?_
      go_simp
      exact ⟨upd u 25 (.slice ta T tc), rfl, ⟨hX.bel, fun h => hX.s0 h, fun h => hX.s1 h, fun h => hX.s2 h, fun h => hX.s3 h, fun h => hX.s4 h, fun _ => rfl, fun h => hX.s6 h, fun h => hX.s7 h, fun h => hX.s8 h, fun h => hX.s9 h, fun h => hX.s10 h, fun h => hX.s11 h, fun h => hX.s12 h⟩⟩
    · have d5 : D 5 = true := hn 5 (needs_sg (by kernel_rfl))
      have f5 := hX.s5 d5
      refine wpOp_plain rfl rfl ?_
      go_simp
      exact ⟨upd u 26 (.int .i64 T), by simp [upd, f5], ⟨hX.bel, fun h => hX.s0 h, fun h => hX.s1 h, fun h => hX.s2 h, fun h => hX.s3 h, fun h => hX.s4 h, fun h => hX.s5 h, fun _ => rfl, fun h => hX.s7 h, fun h => hX.s8 h, fun h => hX.s9 h, fun h => hX.s10 h, fun h => hX.s11 h, fun h => hX.s12 h⟩⟩
    · have d6 : D 6 = true := hn 6 (needs_sg (by kernel_rfl))
      have f6 := hX.s6 d6
      refine wpOp_plain rfl rfl ?_
      go_simp
      go_at_call 60
      refine (sfour_any T w (by omega) (by omega)).mono ?_
      rintro e w3 ⟨x, rfl, hx, hb3⟩
      have hX := hX.grow hb3
      exact ⟨upd u 27 (x), by simp [upd, f6], ⟨hX.bel, fun h => hX.s0 h, fun h => hX.s1 h, fun h => hX.s2 h, fun h => hX.s3 h, fun h => hX.s4 h, fun h => hX.s5 h, fun h => hX.s6 h, fun _ => hx, fun h => hX.s8 h, fun h => hX.s9 h, fun h => hX.s10 h, fun h => hX.s11 h, fun h => hX.s12 h⟩⟩
    · refine wpOp_plain rfl rfl ?_
      go_simp
      exact ⟨upd u 28 (.slice a8 n8 c8), rfl, ⟨hX.bel, fun h => hX.s0 h, fun h => hX.s1 h, fun h => hX.s2 h, fun h => hX.s3 h, fun h => hX.s4 h, fun h => hX.s5 h, fun h => hX.s6 h, fun h => hX.s7 h, fun _ => rfl, fun h => hX.s9 h, fun h => hX.s10 h, fun h => hX.s11 h, fun h => hX.s12 h⟩⟩
    · have d1 : D 1 = true := hn 1 (needs_sg (by kernel_rfl))
      have f1 := hX.s1 d1
      have d2 : D 2 = true := hn 2 (needs_sg (by kernel_rfl))
      have f2 := hX.s2 d2
      have d4 : D 4 = true := hn 4 (needs_sg (by kernel_rfl))
      have f4 := hX.s4 d4
      have d7 : D 7 = true := hn 7 (needs_sg (by kernel_rfl))
      have f7 := hX.s7 d7
      have d8 : D 8 = true := hn 8 (needs_sg (by kernel_rfl))
      have f8 := hX.s8 d8
      obtain ⟨b1, m1, q1, e1⟩ := f1.val
      obtain ⟨b2, m2, q2, e2⟩ := f2.val
      obtain ⟨b4, m4, q4, e4⟩ := f4.val
      obtain ⟨b7, m7, q7, e7⟩ := f7.val
      have f6 := HS.out.below hX.bel (Nat.le_refl _)
      have hX0 := hX
      have hall : SlAll w [u 21, u 22, u 24, u 27, u 28] [[65, 76], List.replicate 6 (0 : Int), numI n, fourI T, sm] := ⟨f1, f2, f4, f7, by rw [f8]; exact f6, trivial⟩
      rw [e1, e2, e4, e7, f8] at hall
      have hl : Sls (w.alloc (.cells #[.slice b1 m1 q1, .slice b2 m2 q2, .slice b4 m4 q4, .slice b7 m7 q7, .slice a8 n8 c8] 26)) (.slice (some ⟨w.heap.size, 0, none⟩) 5 5) [[65, 76], List.replicate 6 (0 : Int), numI n, fourI T, sm] := Sls.litA _ 26 hall (by simp [maxLen])
      refine wpOp_plain rfl rfl ?_
      go_simp
      have hb2 : Below w.heap.size w (w.alloc (.cells #[.slice b1 m1 q1, .slice b2 m2 q2, .slice b4 m4 q4, .slice b7 m7 q7, .slice a8 n8 c8] 26)) := (Below.refl _ _).alloc (Nat.le_refl _) _
      have hX := hX0.grow hb2
      exact ⟨upd u 29 (.slice (some ⟨w.heap.size, 0, none⟩) 5 5), by simp [upd, e1, e2, e4, e7, f8], ⟨hX.bel, fun h => hX.s0 h, fun h => hX.s1 h, fun h => hX.s2 h, fun h => hX.s3 h, fun h => hX.s4 h, fun h => hX.s5 h, fun h => hX.s6 h, fun h => hX.s7 h, fun h => hX.s8 h, fun _ => hl, fun h => hX.s10 h, fun h => hX.s11 h, fun h => hX.s12 h⟩⟩
    · have d9 : D 9 = true := hn 9 (needs_sg (by kernel_rfl))
      have f9 := hX.s9 d9
      refine wpOp_plain rfl rfl ?_
      go_simp
      go_at_call 58
      refine (concat_any _ _ w (by simp [numI_len, fourI_len]; omega) f9).mono ?_
      rintro e w3 ⟨x, rfl, hx, hb3⟩
      have hx := Sl.of_owns hx
      rw [show List.flatten [[65, 76], List.replicate 6 (0 : Int), numI n, fourI T, sm] = markQ n T sm from by simp [markQ, alB]] at hx
      have hX := hX.grow hb3
      exact ⟨upd u 30 (x), rfl, ⟨hX.bel, fun h => hX.s0 h, fun h => hX.s1 h, fun h => hX.s2 h, fun h => hX.s3 h, fun h => hX.s4 h, fun h => hX.s5 h, fun h => hX.s6 h, fun h => hX.s7 h, fun h => hX.s8 h, fun h => hX.s9 h, fun _ => hx, fun h => hX.s11 h, fun h => hX.s12 h⟩⟩
    · have d10 : D 10 = true := hn 10 (needs_sg (by kernel_rfl))
      have f10 := hX.s10 d10
      refine wpOp_plain rfl rfl ?_
      go_simp
      go_at_call 57
      refine (scut_any _ _ w (by have := markQ_len n T sm; omega) (by have := markQ_len n T sm; omega) f10).mono ?_
      rintro e w3 ⟨x, rfl, hx, hb3⟩
      have hx := hx.base hX.bel.size
      have hX := hX.grow hb3
      exact ⟨upd u 31 (x), rfl, ⟨hX.bel, fun h => hX.s0 h, fun h => hX.s1 h, fun h => hX.s2 h, fun h => hX.s3 h, fun h => hX.s4 h, fun h => hX.s5 h, fun h => hX.s6 h, fun h => hX.s7 h, fun h => hX.s8 h, fun h => hX.s9 h, fun h => hX.s10 h, fun _ => hx, fun h => hX.s12 h⟩⟩
    · have d11 : D 11 = true := hn 11 (needs_sg (by kernel_rfl))
      have f11 := hX.s11 d11
      refine wpOp_plain rfl rfl ?_
      go_simp
      exact ⟨upd u 7 (u 31), rfl, ⟨hX.bel, fun h => hX.s0 h, fun h => hX.s1 h, fun h => hX.s2 h, fun h => hX.s3 h, fun h => hX.s4 h, fun h => hX.s5 h, fun h => hX.s6 h, fun h => hX.s7 h, fun h => hX.s8 h, fun h => hX.s9 h, fun h => hX.s10 h, fun h => hX.s11 h, fun _ => f11⟩⟩
  case fin =>
    intro D a' w7 hI hall
    obtain ⟨u, rfl, hX⟩ := hI
    have h7 := hX.s12 (hall 12 (by decide))
    have HB8 := Lib.hid (below_trans2 HB7.out hX.bel)
    have HX8 := Lib.hid (HX6.out.below hX.bel)
    have hqs : cut64 (markQ n T sm) = [pieceI (markQ n T sm) 0] := by
      unfold cut64
      rw [show parts64 (markQ n T sm).length = 1 from by rw [markQ_len, hsm]; decide]
      rfl
    have HQS := Lib.hid hqs
    rw [hqs] at h7
    obtain ⟨a7, c7, e7⟩ := h7.val
    rw [e7] at h7
    obtain ⟨g9, u9, rfl, hlt9, hc9, _, hob9⟩ := h7.at (k := 0) rfl
    have HO9 := Lib.hid (hob9.base (Nat.le_trans HB7.out.size (Nat.le_refl _)))
    have HLEN := Lib.hid (show TS.length + 1 ≤ 5000000000000 from by have := HTN.out; have := HLT.out; omega)
    clear hX h7 hqs hall hob9 hlt9
    have e7 : u 7 = .slice (some ⟨g9, 0, none⟩) 1 c7 := e7
    go_wp2_with (at_builtin; refine wpList_append_ob rfl _ _ rfl w.heap.size (.slice ta T tc) TS rfl HX8.out g9 c7 (by first | exact e7 | rfl) u9 hc9 _ HO9.out HLEN.out HB8.out.size ?_)
    intro v9 w9 hO9 hb9 hg9
    have hO9 : OBs w9 w.heap.size v9 (laidI n bs) := by rw [HLI.out, HQS.out]; exact hO9
    have hB9 := HB8.out.trans hb9
    obtain ⟨va, vc, rfl⟩ := hO9.val
    clear hb9 hg9
    go_wp2
    go_ret
    exact ⟨_, rfl, hO9, hB9⟩

end Go.Proofs.YtgfkejecigefbaaDoor
