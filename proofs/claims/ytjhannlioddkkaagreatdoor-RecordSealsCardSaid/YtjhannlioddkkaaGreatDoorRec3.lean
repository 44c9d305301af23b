
/- Records: Encode. -/
import Derived.Test.YtjhannlioddkkaaGreatDoorRec2
import Derived.Test.YtjhannlioddkkaaGreatDoorCodec
namespace Go.Proofs.YtjhannlioddkkaaGreatDoor
open Go.RowKit
set_option linter.unusedVariables false

theorem rec6 {w : World} {g : Nat} {t : TypeId} {x0 x1 x2 x3 x4 x5 : Value} (k : Blk w g t #[x0, x1, x2, x3, x4, x5]) :
    w.cell? ⟨g, 0, none⟩ = some x0 ∧ w.cell? ⟨g, 1, none⟩ = some x1 ∧ w.cell? ⟨g, 2, none⟩ = some x2 ∧ w.cell? ⟨g, 3, none⟩ = some x3 ∧ w.cell? ⟨g, 4, none⟩ = some x4 ∧ w.cell? ⟨g, 5, none⟩ = some x5 := ⟨k.cell 0, k.cell 1, k.cell 2, k.cell 3, k.cell 4, k.cell 5⟩

/-- What the links read so far make behind bytes. -/
def encTo (ep ti : Int) (tr : List Int) (co : Int) (li : List Int) (ln : List (List Int)) (k : Nat) : List Int :=
  (((((uintN ep.toNat ++ uintN ti.toNat) ++ bytesI tr) ++ uintN co.toNat) ++ bytesI li) ++ (ln.take k).flatMap bytesI)
theorem encTo_all (ep ti : Int) (tr : List Int) (co : Int) (li : List Int) (ln : List (List Int)) : encTo ep ti tr co li ln ln.length = encI ep ti tr co li ln := by
  unfold encTo encI; rw [List.take_length]; simp
theorem encTo_succ (ep ti : Int) (tr : List Int) (co : Int) (li : List Int) (ln : List (List Int)) (k : Nat) (hk : k < ln.length) : encTo ep ti tr co li ln (k + 1) = encTo ep ti tr co li ln k ++ bytesI (ln.getD k []) := by
  unfold encTo
  rw [List.take_succ_eq_append_getElem hk, List.flatMap_append, List.getD_eq_getElem?_getD, List.getElem?_eq_getElem hk]
  simp
theorem bytesI_len (s : List Int) (h : s.length ≤ 4611686018427387904) : (bytesI s).length ≤ s.length + 9 := by
  have := (width_spec s.length h).1
  unfold bytesI uintN; rw [List.length_append, List.length_cons, beI_len]; omega
theorem uintN_len (n : Nat) (h : n ≤ 4611686018427387904) : (uintN n).length ≤ 9 := by
  have := (width_spec n h).1
  unfold uintN; rw [List.length_cons, beI_len]; omega
theorem links_le (ep : Int) : linksI ep ≤ 9 := by unfold linksI; exact Nat.le_trans (List.length_filter_le _ _) (by simp)
theorem flat_short (ln : List (List Int)) (h : ∀ x ∈ ln, x.length ≤ 32) : (ln.flatMap bytesI).length ≤ ln.length * 41 := by
  induction ln with
  | nil => simp
  | cons p ps ih =>
    have h1 := bytesI_len p (by have := h p (by simp); omega)
    have h0 := h p (by simp)
    have h2 := ih (fun q hq => h q (by simp [hq]))
    simp only [List.flatMap_cons, List.length_append, List.length_cons] at *; omega
theorem encTo_len {size ep ti co : Int} {tr li : List Int} {ln : List (List Int)} (h : canI size ep ti tr co li ln) (k : Nat) : (encTo ep ti tr co li ln k).length ≤ 1000 := by
  obtain ⟨hs, he, ht, hc, hx, hl, ha⟩ := h
  have h9 := links_le ep
  have b1 := uintN_len ep.toNat (by omega)
  have b2 := uintN_len ti.toNat (by omega)
  have b3 := bytesI_len tr (by omega)
  have b4 := uintN_len co.toNat (by omega)
  have b5 := bytesI_len li (by omega)
  have b6 := flat_short (ln.take k) (fun x hx => by have := ha x (List.mem_of_mem_take hx); omega)
  rw [List.length_take] at b6
  unfold encTo
  simp only [List.length_append]
  omega

def codeE (size ep ti : Int) (tr : List Int) (co : Int) (li : List Int) (ln : List (List Int)) : Int := if canI size ep ti tr co li ln then 0 else 1
def contE (size ep ti : Int) (tr : List Int) (co : Int) (li : List Int) (ln : List (List Int)) : List Int := if canI size ep ti tr co li ln then encI ep ti tr co li ln else []

set_option maxRecDepth 100000 in
set_option maxHeartbeats 4000000 in
theorem enc_any (size ep ti : Int) (tr : List Int) (co : Int) (li : List Int) (ln : List (List Int)) (v : Value) (w : World) (hz0 : -9223372036854775808 ≤ size) (hz1 : size ≤ 9223372036854775807) (hr : RecV w v ep ti tr co li ln) (hT : TzTab w) :
    Calls Tryz.prog 14 #[.int .i64 size, v] w fun e w' => ∃ x, e = .returned (.tuple #[x, .int .i64 (codeE size ep ti tr co li ln)]) ∧ Sl w' x ((contE size ep ti tr co li ln).map (Value.int .u8)) ∧ Below w.heap.size w w' := by
  obtain ⟨vt, vl, vk, rfl, ht, hl, hk⟩ := hr
  obtain ⟨ta, tn, tc, rfl⟩ := ht.val
  obtain ⟨la, lc, lcc, rfl⟩ := hl.val
  obtain ⟨ka, kc, rfl, hkc, hkm⟩ := hk.shape
  have hb1 : Below w.heap.size w (w.alloc (.cells #[.int .i64 ep, .int .i64 ti, .slice ta tn tc, .int .i64 co, .slice la lc lcc, .slice ka ln.length kc] 25)) := (Below.refl _ _).alloc (Nat.le_refl _) _
  have kR := Blk.new w 25 #[.int .i64 ep, .int .i64 ti, .slice ta tn tc, .int .i64 co, .slice la lc lcc, .slice ka ln.length kc]
  have ht1 := ht.below hb1 (Nat.le_refl _)
  have hl1 := hl.below hb1 (Nat.le_refl _)
  have hk1 := hk.below hb1 (Nat.le_refl _)
  have hT1 := hT.below hb1
  generalize hw1 : (w.alloc (.cells #[.int .i64 ep, .int .i64 ti, .slice ta tn tc, .int .i64 co, .slice la lc lcc, .slice ka ln.length kc] 25)) = w1 at *
  have HCN := Lib.hid (pcan_any size ep ti tr co li ln _ w1 hz0 hz1 ⟨_, _, _, rfl, ht1, hl1, hk1⟩ hT1)
  obtain ⟨c0, c1, c2, c3, c4, c5⟩ := rec6 kR
  by_cases hC : canI size ep ti tr co li ln
  · rw [decide_eq_true hC] at HCN
    have HE := Lib.hid (show codeE size ep ti tr co li ln = 0 ∧ contE size ep ti tr co li ln = encI ep ti tr co li ln from ⟨by unfold codeE; rw [if_pos hC], by unfold contE; rw [if_pos hC]⟩)
    have HLN := Lib.hid (encTo_len hC)
    have hep := hC.2.1
    have hti := hC.2.2.1
    have hco := hC.2.2.2.1
    have HHC := Lib.hid hC
    have HKK := Lib.hid hk
    clear ht hl hk hT hC
    go_enter Tryz.func14, Tryz.ntmps14
    go_wp2_with fail
    refine HCN.out.mono ?_
    rintro e w2 ⟨rfl, hb2⟩
    clear hw1 c0 c1 c2 c3 c4 c5
    have kR := kR.belowS hb2
    have ht1 := ht1.below hb2 (Nat.le_refl _)
    have hl1 := hl1.below hb2 (Nat.le_refl _)
    have hk1 := hk1.below hb2 (Nat.le_refl _)
    have hbr := hb1.trans (hb2.mono hb1.size)
    clear hb1 hb2 HCN hT1
    obtain ⟨c0, c1, c2, c3, c4, c5⟩ := rec6 kR
    have HU := Lib.hid (cuint_any (.slice none 0 0) [] ep w2 (by simp) (Sl.nil _) hep.1 (by omega))
    go_wp2_with fail
    refine HU.out.mono ?_
    rintro e w3 ⟨b3, rfl, ho3, hb3⟩
    have hs3 : Sl w3 b3 ((uintN ep.toNat).map (Value.int .u8)) := by simpa using Sl.of_owns ho3
    have hl0 := HLN.out 0
    have HL0 := Lib.hid hl0
    clear hl0 ho3 HU
    have kR := kR.belowS hb3
    have ht1 := ht1.below hb3 (Nat.le_refl _)
    have hl1 := hl1.below hb3 (Nat.le_refl _)
    have hk1 := hk1.below hb3 (Nat.le_refl _)
    have hbr := hbr.trans (hb3.mono hbr.size)
    clear hb3 c0 c1 c2 c3 c4 c5
    obtain ⟨c0, c1, c2, c3, c4, c5⟩ := rec6 kR
    have HA3 := Lib.hid (show (uintN ep.toNat).length ≤ 1000 by have := HL0.out; unfold encTo at this; simp only [List.length_append] at this ⊢; omega)
    have HU := Lib.hid (cuint_any b3 (uintN ep.toNat) ti w3 (Nat.le_trans HA3.out (by decide)) hs3 hti.1 (by omega))
    go_wp2_with fail
    refine HU.out.mono ?_
    rintro e w4 ⟨b4, rfl, ho4, hb4⟩
    have hs4 : Sl w4 b4 ((uintN ep.toNat ++ uintN ti.toNat).map (Value.int .u8)) := by exact Sl.of_owns ho4
    clear ho4 HU hs3
    have kR := kR.belowS hb4
    have ht1 := ht1.below hb4 (Nat.le_refl _)
    have hl1 := hl1.below hb4 (Nat.le_refl _)
    have hk1 := hk1.below hb4 (Nat.le_refl _)
    have hbr := hbr.trans (hb4.mono hbr.size)
    clear hb4 c0 c1 c2 c3 c4 c5
    obtain ⟨c0, c1, c2, c3, c4, c5⟩ := rec6 kR
    have HA4 := Lib.hid (show ((uintN ep.toNat ++ uintN ti.toNat)).length ≤ 1000 by have := HL0.out; unfold encTo at this; simp only [List.length_append] at this ⊢; omega)
    have HXL4 := Lib.hid (show tr.length ≤ 1000 by have h1 := HHC.out.1; have h2 := HHC.out.2.2.2.2.1; omega)
    have HU := Lib.hid (cbytes_any b4 ((uintN ep.toNat ++ uintN ti.toNat)) _ tr w4 (by have := HA4.out; have := HXL4.out; omega) hs4 ht1)
    go_wp2_with fail
    refine HU.out.mono ?_
    rintro e w5 ⟨b5, rfl, ho5, hb5⟩
    have hs5 : Sl w5 b5 (((uintN ep.toNat ++ uintN ti.toNat) ++ bytesI tr).map (Value.int .u8)) := by exact Sl.of_owns ho5
    clear ho5 HU hs4
    have kR := kR.belowS hb5
    have ht1 := ht1.below hb5 (Nat.le_refl _)
    have hl1 := hl1.below hb5 (Nat.le_refl _)
    have hk1 := hk1.below hb5 (Nat.le_refl _)
    have hbr := hbr.trans (hb5.mono hbr.size)
    clear hb5 c0 c1 c2 c3 c4 c5
    obtain ⟨c0, c1, c2, c3, c4, c5⟩ := rec6 kR
    have HA5 := Lib.hid (show (((uintN ep.toNat ++ uintN ti.toNat) ++ bytesI tr)).length ≤ 1000 by have := HL0.out; unfold encTo at this; simp only [List.length_append] at this ⊢; omega)
    have HU := Lib.hid (cuint_any b5 (((uintN ep.toNat ++ uintN ti.toNat) ++ bytesI tr)) co w5 (Nat.le_trans HA5.out (by decide)) hs5 hco.1 (by omega))
    go_wp2_with fail
    refine HU.out.mono ?_
    rintro e w6 ⟨b6, rfl, ho6, hb6⟩
    have hs6 : Sl w6 b6 ((((uintN ep.toNat ++ uintN ti.toNat) ++ bytesI tr) ++ uintN co.toNat).map (Value.int .u8)) := by exact Sl.of_owns ho6
    clear ho6 HU hs5
    have kR := kR.belowS hb6
    have ht1 := ht1.below hb6 (Nat.le_refl _)
    have hl1 := hl1.below hb6 (Nat.le_refl _)
    have hk1 := hk1.below hb6 (Nat.le_refl _)
    have hbr := hbr.trans (hb6.mono hbr.size)
    clear hb6 c0 c1 c2 c3 c4 c5
    obtain ⟨c0, c1, c2, c3, c4, c5⟩ := rec6 kR
    have HA6 := Lib.hid (show ((((uintN ep.toNat ++ uintN ti.toNat) ++ bytesI tr) ++ uintN co.toNat)).length ≤ 1000 by have := HL0.out; unfold encTo at this; simp only [List.length_append] at this ⊢; omega)
    have HXL6 := Lib.hid (show li.length ≤ 1000 by have h1 := HHC.out.1; have h2 := HHC.out.2.2.2.2.1; omega)
    have HU := Lib.hid (cbytes_any b6 ((((uintN ep.toNat ++ uintN ti.toNat) ++ bytesI tr) ++ uintN co.toNat)) _ li w6 (by have := HA6.out; have := HXL6.out; omega) hs6 hl1)
    go_wp2_with fail
    refine HU.out.mono ?_
    rintro e w7 ⟨b7, rfl, ho7, hb7⟩
    have hs7 : Sl w7 b7 (((((uintN ep.toNat ++ uintN ti.toNat) ++ bytesI tr) ++ uintN co.toNat) ++ bytesI li).map (Value.int .u8)) := by exact Sl.of_owns ho7
    clear ho7 HU hs6
    have kR := kR.belowS hb7
    have hbr := hbr.trans (hb7.mono hbr.size)
    clear hb7 c0 c1 c2 c3 c4 c5 ht1 hl1 hk1
    obtain ⟨c0, c1, c2, c3, c4, c5⟩ := rec6 kR
    have hs7' : Sl w7 b7 ((encTo ep ti tr co li ln 0).map (Value.int .u8)) := by
      have e : encTo ep ti tr co li ln 0 = ((((uintN ep.toNat ++ uintN ti.toNat) ++ bytesI tr) ++ uintN co.toNat) ++ bytesI li) := by unfold encTo; simp
      rw [e]; exact hs7
    clear hs7 c0 c1 c2 c3 c4 kR
    go_wp2
    go_loopw [6, 35] (fun b i wr => ∃ (k : Nat) (bv : Value), bv = b ∧ k ≤ ln.length ∧ i = .int .i64 k ∧ Sl wr bv ((encTo ep ti tr co li ln k).map (Value.int .u8)) ∧ Below w.heap.size w wr) (fun _ i _ => ln.length - (intOf i).toNat)
    case atStart => exact ⟨0, _, rfl, by omega, rfl, hs7', hbr⟩
    case round =>
      clear hs7' hbr
      obtain ⟨k, bv, rfl, hk, rfl, hsv, hbr⟩ := hrel
      obtain ⟨ba, bn, bc, rfl⟩ := hsv.val
      by_cases hlt : k < ln.length
      · have hkI : (k : Int) < (ln.length : Int) := by omega
        obtain ⟨b, off, rfl, hbl, u, hu, hsu⟩ := (HKK.out.below hbr (Nat.le_refl _)).at hlt
        have HST := Lib.hid (encTo_succ ep ti tr co li ln k hlt)
        have HLP := Lib.hid (show (ln.getD k []).length ≤ 1000 by
          rw [List.getD_eq_getElem?_getD, List.getElem?_eq_getElem hlt]
          have h1 := HHC.out.1
          have h2 := HHC.out.2.2.2.2.2.2 _ (List.getElem_mem hlt)
          simp only [Option.getD_some]; omega)
        have HLT := Lib.hid (HLN.out k)
        generalize ln.getD k [] = P at *
        obtain ⟨ua, un, uc, rfl⟩ := hsu.val
        have HU := Lib.hid (cbytes_any (.slice ba bn bc) (encTo ep ti tr co li ln k) (.slice ua un uc) P wr (by have h1 := HLT.out; have h2 := HLP.out; omega) hsv hsu)
        clear hsv hsu
        go_wp2_with fail
        refine HU.out.mono ?_
        rintro e w9 ⟨b9, rfl, ho9, hb9⟩
        have hs9 := Sl.of_owns ho9
        have hbr := hbr.trans (hb9.mono hbr.size)
        clear ho9 hb9 HU
        go_wp2
        exact ⟨⟨k + 1, b9, rfl, by omega, by go_num, by rw [HST.out]; exact hs9, hbr⟩, by simp [intOf]; omega⟩
      · obtain rfl : k = ln.length := by omega
        have hkI : ¬ (ln.length : Int) < (ln.length : Int) := by omega
        rw [encTo_all] at hsv
        go_wp2
        go_ret2
        rw [HE.out.1, HE.out.2]
        exact ⟨_, rfl, hsv, hbr⟩
  · rw [decide_eq_false hC] at HCN
    have HE := Lib.hid (show codeE size ep ti tr co li ln = 1 ∧ contE size ep ti tr co li ln = [] from ⟨by unfold codeE; rw [if_neg hC], by unfold contE; rw [if_neg hC]⟩)
    clear ht hl hk hT hC ht1 hl1 hk1 hT1
    go_enter Tryz.func14, Tryz.ntmps14
    go_wp2_with fail
    refine HCN.out.mono ?_
    rintro e w2 ⟨rfl, hb2⟩
    clear hw1
    have hbr := hb1.trans (hb2.mono hb1.size)
    go_wp2
    go_ret2
    rw [HE.out.1, HE.out.2]
    exact ⟨_, rfl, Sl.nil _, hbr⟩

end Go.Proofs.YtjhannlioddkkaaGreatDoor
