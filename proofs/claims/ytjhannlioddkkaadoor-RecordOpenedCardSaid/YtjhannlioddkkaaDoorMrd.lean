
/- Signatures as bytes: the walk of the program's Read. Conditions: none. -/
import Derived.Test.YtjhannlioddkkaaDoorMrdA
import Derived.Deep.RegionHeld3
import Derived.Deep.Cut
namespace Go.Proofs.YtjhannlioddkkaaDoor
open Go.RowKit
set_option linter.unusedVariables false

theorem Sl.dropA {w : World} {ad : Option Addr} {cap n m : Nat} {xs : List Value} (h : Sl w (.slice ad m cap) xs) (hn : n ≤ xs.length) :
    Sl w (.slice (if cap = n then ad else ad.map fun x => x.add n) (m - n) (cap - n)) (xs.drop n) := by
  obtain ⟨a', cap', h0, h1, h2, h3⟩ := h
  cases h0
  have hl : (xs.drop n).length = xs.length - n := by simp
  refine ⟨_, cap - n, by rw [hl], by omega, by omega, fun hp => ?_⟩
  obtain ⟨b, off, rfl, hlt, hc⟩ := h3 (by omega)
  refine ⟨b, off + n, by rw [if_neg (by omega), Option.map_some, add_plain0], hlt, fun j u hu => ?_⟩
  rw [List.getElem?_drop] at hu
  have := hc _ u hu
  rwa [← Nat.add_assoc] at this
theorem clone_rest {w : World} {ra : Option Addr} {rc T : Nat} {rest : List Int} (h : Sl w (.slice ra rest.length rc) (rest.map (Value.int .u8))) (hT : T ≤ rest.length) (hl : rest.length ≤ 140737488351232) (w' : World) (hb : Below w.heap.size w w') :
    Calls Tryd.prog 48 #[.slice (if rc = T then ra else Option.map (fun x => x.add T) ra) (rest.length - T) (rc - T)] w' fun e w'' => ∃ v', e = .returned v' ∧ Sl w'' v' ((rest.drop T).map (Value.int .u8)) ∧ Below w'.heap.size w' w'' := by
  have hd := h.dropA (n := T) (by rw [List.length_map]; exact hT)
  rw [← List.map_drop] at hd
  exact (sclone_own _ _ w' (by rw [List.length_drop]; omega) (hd.below hb (Nat.le_refl _))).mono fun e w'' ⟨v', he, ho, hb⟩ => ⟨v', he, Sl.of_owns ho, hb⟩
theorem wrap_of {x y : Int} (h : wrap64 x = y) : IntKind.i64.wrap x = y := by rw [← h, IntKind.wrap_i64]; unfold wrap64; omega
theorem threeSet {w : World} {g : Nat} (x0 x1 x2 : Value) : w.grownBy (((w.setCell ⟨g, 0, none⟩ x0).setCell ⟨g, 1, none⟩ x1).setCell ⟨g, 2, none⟩ x2) (some g) :=
  only_setCell (p := ⟨g, 2, none⟩) (only_setCell (p := ⟨g, 1, none⟩) (only_setCell (p := ⟨g, 0, none⟩) (World.grownBy.refl _ _) (.inl rfl) _) (.inl rfl) _) (.inl rfl) _
/-- The signature that was read is handed on. -/
theorem MrS.stored {w wr w9 : World} {gs Bq : Nat} {idx : Int} {vp vq y : Value} {P Q : List (List Int)} {R : List Int} (h : MrS w wr gs idx vp vq Bq P Q) (hb : Below wr.heap.size wr w9) (hy : Sl w9 y (R.map (Value.int .u8))) (x0 x1 x2 : Value) :
    (SigV (((w9.setCell ⟨w.heap.size, 0, none⟩ x0).setCell ⟨w.heap.size, 1, none⟩ x1).setCell ⟨w.heap.size, 2, none⟩ x2) (.agg #[.int .i64 idx, vp, vq]) idx P Q ∧ Sl (((w9.setCell ⟨w.heap.size, 0, none⟩ x0).setCell ⟨w.heap.size, 1, none⟩ x1).setCell ⟨w.heap.size, 2, none⟩ x2) y (R.map (Value.int .u8))) ∧ Below w.heap.size w (((w9.setCell ⟨w.heap.size, 0, none⟩ x0).setCell ⟨w.heap.size, 1, none⟩ x1).setCell ⟨w.heap.size, 2, none⟩ x2) := by
  have hg := threeSet (w := w9) (g := w.heap.size) x0 x1 x2
  have kZ := h.kZ.belowS hb
  have hNB := sig_noB (idx := 0) (vp := .slice none 0 0) (vq := .slice none 0 0) ⟨_, _, _, rfl⟩ ⟨_, _, _, rfl⟩
  exact ⟨⟨⟨vp, vq, rfl, ((h.hP.below hb).keepGk kZ (by decide) hNB hg).sls, ((h.hQ.below hb).keepGk kZ (by decide) hNB hg).sls⟩, hy.keepG kZ hNB hg⟩, below_of_only (below_trans2 h.bel hb) hg (Nat.le_refl _) (below_trans2 h.bel hb).size⟩
theorem next_at {k M : Nat} (hk : k < M) (hM : M ≤ 141) : wrap64 ((k : Int) + 1) = ((k + 1 : Nat) : Int) := by unfold wrap64; omega
theorem piece_at {z k M T : Nat} (hk : k < M) (hT : T = z * M) (hT1 : T ≤ 4512) : ∃ q r : Nat, q = z * k ∧ r = q + z ∧ r ≤ T ∧ q ≤ r ∧ wrap64 ((z : Int) * (k : Int)) = (q : Int) ∧ wrap64 ((q : Int) + (z : Int)) = (r : Int) := by
  have h1 : z * k + z ≤ T := by rw [hT]; exact Nat.mul_le_mul (Nat.le_refl z) hk
  have e1 : ((z : Int) * (k : Int)) = ((z * k : Nat) : Int) := by simp
  rw [e1]
  generalize z * k = q at *
  clear e1 hT hk
  exact ⟨q, q + z, rfl, rfl, h1, by omega, by unfold wrap64; omega, by unfold wrap64; omega⟩
theorem chunk_piece {z k q r : Nat} (rest : List Int) (hq : q = z * k) (hr : r = q + z) (h : r ≤ rest.length) : (rest.drop q).take (r - q) = chunkI z rest k ∧ (chunkI z rest k).length = r - q := by
  have e : (rest.drop q).take (r - q) = chunkI z rest k := by unfold chunkI; rw [hr, Nat.add_sub_cancel_left, hq]
  refine ⟨e, ?_⟩
  rw [← e, List.length_take, List.length_drop]; clear e hq; omega

set_option maxRecDepth 100000 in
set_option maxHeartbeats 4000000 in
theorem mread_any (size height : Int) (v : Value) (bs : List Int) (w : World) (hz0 : -9223372036854775808 ≤ size) (hz1 : size ≤ 9223372036854775807) (hh0 : -9223372036854775808 ≤ height) (hh1 : height ≤ 9223372036854775807) (hl : bs.length ≤ 140737488351232) (hB : IsB bs) (hs : Sl w v (bs.map (Value.int .u8))) :
    Calls Tryd.prog 10 #[.int .i64 size, .int .i64 height, v] w fun e w' => ∃ x y, e = .returned (.tuple #[x, y, .int .i64 (mrC size height bs)]) ∧ MrRes w w' size height bs x y := by
  obtain ⟨va, vc, rfl, hc, hm⟩ := hs.shape
  rw [List.length_map] at *
  have hb1 : Below w.heap.size w (w.alloc (.cells #[.int .i64 0, .slice none 0 0, .slice none 0 0] 24)) := (Below.refl _ _).alloc (Nat.le_refl _) _
  have kZ := Blk.new w 24 #[.int .i64 0, .slice none 0 0, .slice none 0 0]
  have hs1 := hs.below hb1 (Nat.le_refl _)
  have hsz1 : (w.alloc (.cells #[.int .i64 0, .slice none 0 0, .slice none 0 0] 24)).heap.size = w.heap.size + 1 := by simp
  have HLL := Lib.hid hl
  have HB := Lib.hid hB
  have HSS := Lib.hid hs
  clear hs hl hB
  by_cases hcan : mcanB size height = true
  rotate_left
  · have hcan : mcanB size height = false := by simpa using hcan
    have HC := Lib.hid (mcan_any size height (w.alloc (.cells #[.int .i64 0, .slice none 0 0, .slice none 0 0] 24)))
    rw [hcan] at HC
    have hC1 : mrC size height bs = 1 := by unfold mrC; rw [if_pos hcan]
    have HC1 := Lib.hid hC1
    have HB1 := Lib.hid hb1
    obtain ⟨z0, z1, z2⟩ := rec3 kZ
    have f0 := kZ.frozen 0
    have f1 := kZ.frozen 1
    have f2 := kZ.frozen 2
    clear hC1 hcan hs1 hb1
    go_enter Tryd.func10, Tryd.ntmps10
    go_wp2_with fail
    generalize (w.alloc (.cells #[.int .i64 0, .slice none 0 0, .slice none 0 0] 24)) = w1 at *
    refine HC.out.mono ?_
    rintro e w2 ⟨rfl, rfl⟩
    go_wp2
    exact bodyPost_ret (by rw [results_cell_tmp2 rfl]; go_simp; exact rfl) rfl ⟨_, _, by rw [HC1.out], MrRes.no (set3_below HB1.out (Nat.le_refl _) (by omega) _ _ _) (by rw [HC1.out]; decide)⟩
  have hcan' : 1 ≤ size ∧ size ≤ 32 ∧ 0 ≤ height ∧ height ≤ 8 := by unfold mcanB at hcan; exact of_decide_eq_true hcan
  obtain ⟨z, rfl⟩ : ∃ z : Nat, size = z := ⟨size.toNat, by omega⟩
  obtain ⟨H, rfl⟩ : ∃ H : Nat, height = H := ⟨height.toNat, by omega⟩
  have hz : 1 ≤ z ∧ z ≤ 32 := by omega
  have hH : H ≤ 8 := by omega
  obtain ⟨P, hP⟩ : ∃ P : Nat, P = 2 ^ H := ⟨_, rfl⟩
  have hP1 : 1 ≤ P ∧ P ≤ 256 := by rw [hP]; exact ⟨Nat.one_le_two_pow, Nat.pow_le_pow_right (by omega) hH⟩
  have hPI : ((2 : Int) ^ H) = (P : Int) := by rw [show ((2 : Int) ^ H) = ((2 ^ H : Nat) : Int) by simp, ← hP]
  have hW : wrap64 ((2 : Int) ^ H) = (P : Int) := by rw [hPI]; unfold wrap64; omega
  have hW2 : wrap64 ((P : Int) - 1) = (P : Int) - 1 := by unfold wrap64; omega
  have hMU : mrU H bs = uI ((P : Int) - 1) bs 0 := by unfold mrU; rw [hPI]
  have HC := Lib.hid (mcan_any z H (w.alloc (.cells #[.int .i64 0, .slice none 0 0, .slice none 0 0] 24)))
  rw [hcan] at HC
  have hC1 : mrC z H bs = if (mrU H bs).2.2 ≠ 0 then (mrU H bs).2.2 else if (mrU H bs).2.1.length < z * (4 * z + 5 + H) then 3 else 0 := by unfold mrC mrNeed; rw [if_neg (by simp [hcan])]; simp
  have HPO : Hid (∀ (w' : World) (x y : Value), ((mrC z H bs = 0 → SigV w' x (mrU H bs).1 (chunksI z (mrU H bs).2.1 0 (4 * z + 5)) (chunksI z (mrU H bs).2.1 (4 * z + 5) H) ∧ Sl w' y (((mrU H bs).2.1.drop (z * (4 * z + 5 + H))).map (Value.int .u8))) ∧
      (¬ mrC z H bs = 0 → x = .agg #[.int .i64 0, .slice none 0 0, .slice none 0 0] ∧ y = .slice none 0 0) ∧ Below w.heap.size w w') → MrRes w w' z H bs x y) := fun w' x y h => by
    unfold MrRes mrParts mrPath mrNeed
    simpa using h
  have hLR := uI_left ((P : Int) - 1) bs 0
  rw [← hMU] at hLR
  have HLR := Lib.hid hLR
  have HRU := Lib.hid (fun (g : Nat) (w1 : World) (h : Rd w1 g bs 0) => cruint_any g bs 0 ((P : Int) - 1) w1 HB.out HLL.out h)
  rw [← hMU] at HRU
  have HC1 := Lib.hid hC1
  generalize mrU H bs = U at *
  obtain ⟨idx, rest, err⟩ := U
  simp only at HC1 HPO HRU HLR
  generalize mrC z H bs = CC at *
  clear hcan hcan' hP hPI hMU hC1 hLR
  go_enter Tryd.func10, Tryd.ntmps10
  go_wp2_with fail
  generalize (w.alloc (.cells #[.int .i64 0, .slice none 0 0, .slice none 0 0] 24)) = w1 at *
  refine HC.out.mono ?_
  rintro e w2 ⟨rfl, rfl⟩
  go_wp2_with fail
  refine (copen_any _ bs w1 HLL.out hs1).mono ?_
  rintro e w2 ⟨g, rfl, hg, hr2, hb2⟩
  have kZ := kZ.belowS hb2
  have hbr := hb1.trans (hb2.mono hb1.size)
  have hgP : w.heap.size < g := by omega
  clear hs1 hb1 hb2 hsz1 hg HC
  have HU := Lib.hid (HRU.out g w2 hr2)
  go_wp2_with fail
  refine HU.out.mono ?_
  rintro e w3 ⟨rfl, hr3, hg3⟩
  have kZ := kZ.grown hg3 (by intro e; cases e; omega)
  have hbr := below_of_only hbr hg3 (by omega) hbr.size
  clear hg3 HU hr2 HRU
  have hbA : Below w3.heap.size w3 (w3.alloc (.cells #[.int .i64 idx, .slice none 0 0, .slice none 0 0] 24)) := (Below.refl _ _).alloc (Nat.le_refl _) _
  have kS := Blk.new w3 24 #[.int .i64 idx, .slice none 0 0, .slice none 0 0]
  have kZ := kZ.belowS hbA
  have hr4 := hr3.below hbA
  have hbr := below_trans2 hbr hbA
  have HGZ := Lib.hid (show w.heap.size < w3.heap.size by obtain ⟨_, hk, _⟩ := hr3; have := hk.lt; omega)
  clear hr3 hbA
  go_wp2_with fail
  generalize (w3.alloc (.cells #[.int .i64 idx, .slice none 0 0, .slice none 0 0] 24)) = w4 at *
  generalize w3.heap.size = gs at *
  refine (crleft_any g _ _ w4 hr4).mono ?_
  rintro e w5 ⟨rfl, rfl⟩
  obtain ⟨D, hD⟩ : ∃ D : Nat, D = bs.length - rest.length := ⟨_, rfl⟩
  have hlr := suf_len HLR.out
  have HDR := Lib.hid (show bs.drop D = rest from by
    rcases HLR.out with h | h
    · subst h; rw [hD]; simp
    · obtain ⟨pre, rfl⟩ := h
      rw [hD, List.length_append, Nat.add_sub_cancel, List.drop_left])
  have HDL := Lib.hid (show D ≤ bs.length by omega)
  have hD2 : wrap64 ((bs.length : Int) - (rest.length : Int)) = D := by rw [hD]; have := HLL.out; simp only [wrap64]; omega
  have hs4 := HSS.out.below hbr (Nat.le_refl _)
  have HRL := Lib.hid (show rest.length ≤ 140737488351232 from Nat.le_trans hlr HLL.out)
  clear hlr hD
  go_wp2_with (refine wpList_from rfl _ _ 25 5 rfl Tryd.underlying25 size8 _ D _ rfl hs4 (by first | rfl | (rw [← hD2]; rfl)) (by have := HDL.out; simpa using this) ?_)
  intro ra rc hrs
  rw [← List.map_drop, HDR.out] at hrs
  have hmk := fun w1 => run_make_bytes z (by omega) w1
  have hrn : bs.length - D = rest.length := by have := congrArg List.length HDR.out; rw [List.length_drop] at this; exact this
  simp only [hrn] at hrs ⊢
  generalize hn : 4 * z + 5 = n at *
  have HN := Lib.hid (show n ≤ 133 by omega)
  have hbM : Below w4.heap.size w4 (w4.alloc (.cells (Array.replicate z (Value.int .u8 0)) 5)) := (Below.refl _ _).alloc (Nat.le_refl _) _
  have kM := Blk.new w4 5 (Array.replicate z (Value.int .u8 0))
  have hsM : Sl (w4.alloc (.cells (Array.replicate z (Value.int .u8 0)) 5)) (.slice (some ⟨w4.heap.size, 0, none⟩) z z) ((List.replicate z (0 : Int)).map (Value.int .u8)) := by
    refine Sl.ofBlk (t := 5) ?_ z (by simp) (by rw [List.length_map, List.length_replicate]; unfold maxLen; omega)
    rw [List.map_replicate, List.toArray_replicate]; exact kM
  have HDG := Lib.hid (digits_short (List.replicate z 0) _ (fun x hx => by rw [List.eq_of_mem_replicate hx]; omega) (by simp; omega) _ hsM)
  have HDN := Lib.hid (show (digitsOf (List.replicate z (0 : Int))).length = n by rw [digits_len _ (by simp; omega), List.length_replicate]; exact hn)
  generalize digitsOf (List.replicate z (0 : Int)) = DG at *
  have kZ := kZ.belowS hbM
  have kS := kS.belowS hbM
  have hr4 := hr4.below hbM
  have hrs := hrs.below hbM (Nat.le_refl _)
  have hbr := below_trans2 hbr hbM
  clear hbM kM hsM hs4 hn
  go_wp2_with fail
  generalize (w4.alloc (.cells (Array.replicate z (Value.int .u8 0)) 5)) = w5 at *
  refine HDG.out.mono ?_
  rintro e w6 ⟨dv, rfl, hdv, hb6⟩
  obtain ⟨da, dc, rfl, hdc⟩ : ∃ a c, dv = .slice a n c ∧ n ≤ c := by
    obtain ⟨a, c, e, h1, _⟩ := hdv.shape
    rw [List.length_map, HDN.out] at e h1
    exact ⟨a, c, e, h1⟩
  have kZ := kZ.belowS hb6
  have kS := kS.belowS hb6
  have hr6 := hr4.below hb6
  have hrs := hrs.below hb6 (Nat.le_refl _)
  have hbr := below_trans2 hbr hb6
  clear hb6 hdv HDG HDN hr4 hmk
  go_wp2_with fail
  have HE := Lib.hid (crerr_any g _ _ w6 hr6)
  refine HE.out.mono ?_
  rintro e w7 ⟨rfl, rfl⟩
  by_cases he : err = 0
  rotate_left
  · have he' : (err != 0) = true := by simp [he]
    rw [if_pos he] at HC1
    have HNO := Lib.hid (show ¬ CC = 0 by rw [HC1.out]; exact he)
    have HBR := Lib.hid hbr
    obtain ⟨z0, z1, z2⟩ := rec3 kZ
    have f0 := kZ.frozen 0
    have f1 := kZ.frozen 1
    have f2 := kZ.frozen 2
    have hwz := kZ.lt
    clear he hbr
    go_wp2_with fail
    refine HE.out.mono ?_
    rintro e w7 ⟨rfl, rfl⟩
    go_wp2
    exact bodyPost_ret (by rw [results_cell_tmp2 rfl]; go_simp; exact rfl) rfl ⟨_, _, by rw [HC1.out], HPO.out _ _ _ ⟨fun h => absurd h HNO.out, fun _ => ⟨rfl, rfl⟩, set3_below HBR.out (Nat.le_refl _) (by omega) _ _ _⟩⟩
  subst he
  have he' : ((0 : Int) != 0) = false := rfl
  obtain ⟨M, hM⟩ : ∃ M : Nat, M = n + H := ⟨_, rfl⟩
  obtain ⟨T, hT⟩ : ∃ T : Nat, T = z * M := ⟨_, rfl⟩
  have hM1 : M ≤ 141 := by have := HN.out; omega
  have hT1 : T ≤ 4512 := by rw [hT]; exact Nat.le_trans (Nat.mul_le_mul hz.2 hM1) (by decide)
  have hMI : wrap64 ((n : Int) + (H : Int)) = (M : Int) := by rw [hM]; unfold wrap64; omega
  have hTI : wrap64 ((z : Int) * (M : Int)) = (T : Int) := by rw [show ((z : Int) * (M : Int)) = ((z * M : Nat) : Int) by simp, ← hT]; unfold wrap64; omega
  rw [← hM, ← hT] at HC1 HPO
  have HM := Lib.hid hM
  have HT := Lib.hid hT
  by_cases hsh : rest.length < T
  · have hshI : (rest.length : Int) < (T : Int) := Int.ofNat_lt.2 hsh
    rw [if_neg (by simp), if_pos hsh] at HC1
    have HBR := Lib.hid hbr
    obtain ⟨z0, z1, z2⟩ := rec3 kZ
    have f0 := kZ.frozen 0
    have f1 := kZ.frozen 1
    have f2 := kZ.frozen 2
    have hwz := kZ.lt
    clear hsh hbr hM hT
    go_wp2
    exact bodyPost_ret (by rw [results_cell_tmp2 rfl]; go_simp; exact rfl) rfl ⟨_, _, by rw [HC1.out], HPO.out _ _ _ ⟨fun h => by rw [HC1.out] at h; exact absurd h (by decide), fun _ => ⟨rfl, rfl⟩, set3_below HBR.out (Nat.le_refl _) (Nat.le_of_lt hwz) _ _ _⟩⟩
  have hshI : ¬ (rest.length : Int) < (T : Int) := fun h => hsh (Int.ofNat_lt.1 h)
  rw [if_neg (by simp), if_neg hsh] at HC1
  have HSH := Lib.hid (show T ≤ rest.length from Nat.le_of_not_lt hsh)
  have HRS := Lib.hid hrs
  have HM0 := Lib.hid (show MrS w w6 gs idx (.slice none 0 0) (.slice none 0 0) w6.heap.size [] [] from ⟨kS, kZ, OSls.nil _ _, OSls.nil _ _, fun g hg => by simp [Value.ownBlock] at hg, Nat.le_refl _, hbr.size, hbr, HGZ.out⟩)
  have HZ := Lib.hid hz
  have HT1 := Lib.hid hT1
  have HM1 := Lib.hid hM1
  have HHH := Lib.hid hH
  clear hsh hbr hM hT kZ kS hrs hr6 HE HLR HDR HDL HSS hD2 hrn hW hW2 hP1 hM1 hT1 hH hz he'
  go_wp2
  rw [show decide (rest.length < T) = false from decide_eq_false (Nat.not_lt.2 HSH.out), hMI, hTI]
  go_loopw [59] (fun i wr => ∃ (k Bq : Nat) (vp vq : Value), i = .int .i64 k ∧ k ≤ M ∧ MrS w wr gs idx vp vq Bq (chunksI z rest 0 (min k n)) (chunksI z rest n (k - n)) ∧ (k ≤ n → vq = .slice none 0 0) ∧ Sl wr (.slice ra rest.length rc) (rest.map (Value.int .u8))) (fun i _ => M - (intOf i).toNat)
  case atStart => exact ⟨0, _, _, _, rfl, by omega, by simpa [chunksI] using HM0.out, fun _ => rfl, HRS.out⟩
  case round =>
    obtain ⟨k, Bq, vp, vq, rfl, hk, hS, hq0, hrs⟩ := hrel
    by_cases hlt : k < M
    · have hkI : (k : Int) < (M : Int) := Int.ofNat_lt.2 hlt
      have HLT := Lib.hid hlt
      have HKW := Lib.hid (next_at hlt HM1.out)
      obtain ⟨q, r, hq, hr, hrT, hqr, hqI, hrI⟩ := piece_at hlt HT.out HT1.out
      obtain ⟨hch0, hchl⟩ := chunk_piece rest hq hr (Nat.le_trans hrT HSH.out)
      have HQR := Lib.hid (And.intro hqr (Nat.le_trans hrT HSH.out))
      have HCH := Lib.hid hch0
      have HRZ := Lib.hid hchl.symm
      have HCL := Lib.hid (show (chunkI z rest k).length ≤ 4512 from by rw [hchl]; exact Nat.le_trans (Nat.sub_le _ _) (Nat.le_trans hrT HT1.out))
      clear hq hr hrT hqr hlt hch0 hchl
      go_wp2_with (refine wpList_part rfl _ _ _ 25 5 rfl Tryd.underlying25 size8 _ q r _ rfl hrs (by first | rfl | (rw [← hqI]; rfl)) (by first | rfl | (rw [← hrI]; rfl)) HQR.out.1 (by have := HQR.out; simpa using this.2) ?_)
      intro ad ac hch
      rw [← List.map_drop, ← List.map_take, HCH.out] at hch
      have HCN := Lib.hid (sclone_own _ _ wr (by have := HCL.out; omega) hch)
      go_wp2_with fail
      refine HCN.out.mono ?_
      rintro e w2 ⟨xv, rfl, hxo, hb2⟩
      have hx := Sl.of_owns hxo
      obtain ⟨xa, xn, xc, rfl⟩ := hx.val
      have hS2 := hS.below hb2
      have hrs2 := hrs.below hb2 (Nat.le_refl _)
      have hbB : Below w2.heap.size w2 (w2.alloc (.cells #[.slice xa xn xc] 25)) := (Below.refl _ _).alloc (Nat.le_refl _) _
      have hx3 := hx.below hbB (Nat.le_refl _)
      have hrs3 := hrs2.below hbB (Nat.le_refl _)
      have hc2 := (Blk.new w2 25 #[.slice xa xn xc]).cell 0
      have hm1 := HM1.out
      clear hS hrs hb2 hxo hx hch hrs2 HCN hqI hrI
      by_cases hkn : k < n
      · obtain rfl := hq0 (Nat.le_of_lt hkn)
        have hknI : (k : Int) < (n : Int) := Int.ofNat_lt.2 hkn
        rw [Nat.min_eq_left (Nat.le_of_lt hkn), Nat.sub_eq_zero_of_le (Nat.le_of_lt hkn), show chunksI z rest n 0 = [] from rfl] at hS2
        have HSU := Lib.hid (show chunksI z rest 0 (k + 1) = chunksI z rest 0 k ++ [chunkI z rest k] by rw [chunksI_succ, Nat.zero_add])
        have HLN := Lib.hid (show (chunksI z rest 0 k).length + 1 ≤ 5000000000000 by rw [chunksI_len]; omega)
        have HKN := Lib.hid hkn
        generalize chunksI z rest 0 k = PL at *
        obtain ⟨pa, pc, rfl⟩ := hS2.hP.val
        have q1 : w2.cell? ⟨gs, 1, none⟩ = some (.slice pa PL.length pc) := hS2.kS.cell 1
        have HS3 := Lib.hid (hS2.below hbB)
        have HW2 := Lib.hid (show w.heap.size ≤ (w2.alloc (.cells #[.slice xa xn xc] 25)).heap.size from (HS3.out).bel.size)
        have HR3 := Lib.hid hrs3
        clear hkn hS2 hrs3 hm1
        go_wp2_with (at_builtin; refine wpList_append_text rfl _ _ rfl w.heap.size _ PL rfl HS3.out.hP w2.heap.size 1 rfl (.slice xa xn xc) hc2 _ hx3 HLN.out HW2.out ?_)
        intro l5 w5 hO5 hb5 hg5
        obtain ⟨a5, c5, rfl⟩ := hO5.val
        obtain ⟨f5, q5, hS5, hk5⟩ := HS3.out.app1 hO5 hg5 hb5
        have HS5 := Lib.hid hS5
        have HR5 := Lib.hid (hk5 _ _ HR3.out)
        clear hO5 hb5 hg5 hS5 hk5 hx3 hc2 q1
        generalize (PL ++ [chunkI z rest k]).length = lenX at *
        go_wp2
        go_roundw
        case rel => exact ⟨k + 1, _, _, _, by rw [HKW.out], HLT.out, by rw [Nat.min_eq_left HKN.out, Nat.sub_eq_zero_of_le HKN.out, HSU.out]; exact HS5.out, fun _ => rfl, HR5.out⟩
        case measure => rw [HKW.out]; have := HLT.out; simp [intOf]; omega
      · have hknI : ¬ (k : Int) < (n : Int) := fun h => hkn (Int.ofNat_lt.1 h)
        have hnk : n ≤ k := Nat.le_of_not_lt hkn
        rw [Nat.min_eq_right hnk] at hS2
        have HSU := Lib.hid (show chunksI z rest n (k + 1 - n) = chunksI z rest n (k - n) ++ [chunkI z rest k] by rw [show k + 1 - n = (k - n) + 1 by omega, chunksI_succ, show n + (k - n) = k by omega])
        have HLN := Lib.hid (show (chunksI z rest n (k - n)).length + 1 ≤ 5000000000000 by rw [chunksI_len]; omega)
        have HKN := Lib.hid hnk
        generalize chunksI z rest n (k - n) = QL at *
        generalize hPL : chunksI z rest 0 n = PL at *
        have HPL := Lib.hid hPL
        clear hPL
        obtain ⟨qa, qc, rfl⟩ := hS2.hQ.val
        have q2 : w2.cell? ⟨gs, 2, none⟩ = some (.slice qa QL.length qc) := hS2.kS.cell 2
        have HS3 := Lib.hid (hS2.below hbB)
        have HR3 := Lib.hid hrs3
        clear hkn hnk hS2 hrs3 hm1
        go_wp2_with (at_builtin; refine wpList_append_text rfl _ _ rfl Bq _ QL rfl HS3.out.hQ w2.heap.size 1 rfl (.slice xa xn xc) hc2 _ hx3 HLN.out HS3.out.le ?_)
        intro l5 w5 hO5 hb5 hg5
        obtain ⟨a5, c5, rfl⟩ := hO5.val
        obtain ⟨f5, q5, hS5, hk5⟩ := HS3.out.app2 hO5 hg5 hb5 HS3.out.lo
        have HS5 := Lib.hid hS5
        have HR5 := Lib.hid (hk5 _ _ HR3.out)
        clear hO5 hb5 hg5 hS5 hk5 hx3 hc2 q2
        generalize (QL ++ [chunkI z rest k]).length = lenX at *
        go_wp2
        go_roundw
        case rel => exact ⟨k + 1, _, _, _, by rw [HKW.out], HLT.out, by rw [Nat.min_eq_right (Nat.le_succ_of_le HKN.out), HSU.out, HPL.out]; exact HS5.out, fun h => absurd h (by have := HKN.out; omega), HR5.out⟩
        case measure => rw [HKW.out]; have := HLT.out; simp [intOf]; omega
    · have hkM : k = M := Nat.le_antisymm hk (Nat.le_of_not_lt hlt)
      subst hkM
      have hkI : ¬ (k : Int) < (k : Int) := fun h => absurd h (Int.lt_irrefl _)
      rw [HM.out, Nat.min_eq_right (Nat.le_add_right n H), Nat.add_sub_cancel_left] at hS
      obtain ⟨d0, d1, d2⟩ := rec3 hS.kS
      obtain ⟨z0, z1, z2⟩ := rec3 hS.kZ
      have HSS := Lib.hid hS
      have HR := Lib.hid hrs
      clear hS hrs hq0 hlt hk
      have HCLN := Lib.hid (clone_rest HR.out HSH.out HRL.out)
      have hTr : (T : Int) ≤ (rest.length : Int) := Int.ofNat_le.2 HSH.out
      obtain ⟨pa, pc, rfl⟩ := HSS.out.hP.val
      obtain ⟨qa, qc, rfl⟩ := HSS.out.hQ.val
      have hrc : (rest.length : Int) ≤ (rc : Int) := by
        obtain ⟨a, cap, e, h1, _⟩ := HR.out
        rw [List.length_map] at h1 e
        cases e
        exact Int.ofNat_le.2 h1
      generalize (chunksI z rest 0 n).length = lenP at *
      generalize (chunksI z rest n H).length = lenQ at *
      have hMI2 : IntKind.i64.wrap ((n : Int) + (H : Int)) = (k : Int) := wrap_of hMI
      have hTI2 : IntKind.i64.wrap ((z : Int) * (k : Int)) = (T : Int) := wrap_of hTI
      clear hMI hTI
      have HKS := Lib.hid (fun w' (h : Below wr.heap.size wr w') => (rec3 (HSS.out.kS.belowS h)))
      have hG := Lib.hid (HKS.out _ (Below.refl _ _))
      have HKZ := Lib.hid (fun w' (h : Below wr.heap.size wr w') => (rec3 (HSS.out.kZ.belowS h)))
      have HKF := Lib.hid (fun w' (h : Below wr.heap.size wr w') (i : Nat) => ((HSS.out.kZ.belowS h).frozen i))
      have hne1 : ¬ gs = w.heap.size := by have := HSS.out.zs; omega
      have hne2 : ¬ w.heap.size = gs := by have := HSS.out.zs; omega
      by_cases hcap : rc = T
      · rw [if_pos hcap, show rc - T = 0 by omega] at HCLN
        go_upto_region 19 with (fail)
        go_region_held3 (fun w' => w'.cell? ⟨gs, 0, none⟩ = some (.int .i64 idx) ∧ w'.cell? ⟨gs, 1, none⟩ = some (.slice pa lenP pc) ∧ w'.cell? ⟨gs, 2, none⟩ = some (.slice qa lenQ qc)) (first | exact hG.out | exact hG2.out) (first | (go_at_call 48; refine (HCLN.out _ (by first | exact Below.refl _ _ | exact (Below.refl _ _).drew)).mono ?_; rintro e w9 ⟨y9, rfl, hy9, hb9⟩; have hb9 : Below wr.heap.size wr w9 := ⟨hb9.os, hb9.tape, hb9.output, hb9.size, hb9.block⟩; have hG := Lib.hid (HKS.out _ hb9); obtain ⟨y0, y1, y2⟩ := HKZ.out _ hb9; have f0 := HKF.out _ hb9 0; have f1 := HKF.out _ hb9 1; have f2 := HKF.out _ hb9 2; have hG2 := Lib.hid (rec3 ((((HSS.out.kS.belowS hb9).far (p := ⟨w.heap.size, 0, none⟩) hne1 (.int .i64 idx)).far (p := ⟨w.heap.size, 1, none⟩) hne1 (.slice pa lenP pc)).far (p := ⟨w.heap.size, 2, none⟩) hne1 (.slice qa lenQ qc)))))
        go_wp2
        exact bodyPost_ret (by rw [results_cell_tmp2 rfl]; go_simp; exact rfl) rfl ⟨_, _, by rw [HC1.out], HPO.out _ _ _ ⟨fun _ => (HSS.out.stored hb9 hy9 _ _ _).1, fun h => absurd HC1.out h, (HSS.out.stored hb9 hy9 _ _ _).2⟩⟩
      · rw [if_neg hcap] at HCLN
        go_upto_region 19 with (fail)
        go_region_held3 (fun w' => w'.cell? ⟨gs, 0, none⟩ = some (.int .i64 idx) ∧ w'.cell? ⟨gs, 1, none⟩ = some (.slice pa lenP pc) ∧ w'.cell? ⟨gs, 2, none⟩ = some (.slice qa lenQ qc)) (first | exact hG.out | exact hG2.out) (first | (go_at_call 48; refine (HCLN.out _ (by first | exact Below.refl _ _ | exact (Below.refl _ _).drew)).mono ?_; rintro e w9 ⟨y9, rfl, hy9, hb9⟩; have hb9 : Below wr.heap.size wr w9 := ⟨hb9.os, hb9.tape, hb9.output, hb9.size, hb9.block⟩; have hG := Lib.hid (HKS.out _ hb9); obtain ⟨y0, y1, y2⟩ := HKZ.out _ hb9; have f0 := HKF.out _ hb9 0; have f1 := HKF.out _ hb9 1; have f2 := HKF.out _ hb9 2; have hG2 := Lib.hid (rec3 ((((HSS.out.kS.belowS hb9).far (p := ⟨w.heap.size, 0, none⟩) hne1 (.int .i64 idx)).far (p := ⟨w.heap.size, 1, none⟩) hne1 (.slice pa lenP pc)).far (p := ⟨w.heap.size, 2, none⟩) hne1 (.slice qa lenQ qc)))))
        go_wp2
        exact bodyPost_ret (by rw [results_cell_tmp2 rfl]; go_simp; exact rfl) rfl ⟨_, _, by rw [HC1.out], HPO.out _ _ _ ⟨fun _ => (HSS.out.stored hb9 hy9 _ _ _).1, fun h => absurd HC1.out h, (HSS.out.stored hb9 hy9 _ _ _).2⟩⟩

end Go.Proofs.YtjhannlioddkkaaDoor
