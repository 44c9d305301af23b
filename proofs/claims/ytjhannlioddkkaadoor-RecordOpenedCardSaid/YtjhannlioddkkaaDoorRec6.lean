
/- Records: Decode. -/
import Derived.Test.YtjhannlioddkkaaDoorRec5
namespace Go.Proofs.YtjhannlioddkkaaDoor
open Go.RowKit
set_option linter.unusedVariables false

theorem bytesI_isB {s : List Int} (h : IsB s) (hl : s.length ≤ 4611686018427387904) : IsB (bytesI s) := by
  intro x hx
  unfold bytesI at hx
  rcases List.mem_append.1 hx with hx | hx
  · exact uintN_isB _ hl x hx
  · exact h x hx
theorem encI_isB {size ep ti co : Int} {tr li : List Int} {ln : List (List Int)} (hC : canI size ep ti tr co li ln) (h1 : IsB tr) (h2 : IsB li) (h3 : ∀ p ∈ ln, IsB p) : IsB (encI ep ti tr co li ln) := by
  obtain ⟨hs, he, ht, hc, hx, hl, ha⟩ := hC
  intro x hx
  unfold encI at hx
  simp only [List.mem_append, List.mem_flatMap] at hx
  rcases hx with hx | hx | hx | hx | hx | ⟨p, hp, hx⟩
  · exact uintN_isB _ (by omega) x hx
  · exact uintN_isB _ (by omega) x hx
  · exact bytesI_isB h1 (by omega) x hx
  · exact uintN_isB _ (by omega) x hx
  · exact bytesI_isB h2 (by omega) x hx
  · exact bytesI_isB (h3 p hp) (by have := ha p hp; omega) x hx
theorem contE_isB (size ep ti co : Int) (tr li : List Int) (ln : List (List Int)) (h1 : IsB tr) (h2 : IsB li) (h3 : ∀ p ∈ ln, IsB p) : IsB (contE size ep ti tr co li ln) := by
  unfold contE
  split
  · rename_i h; exact encI_isB h h1 h2 h3
  · intro x hx; cases hx
theorem d_isB (size : Int) (bs : List Int) (hB : IsB bs) : IsB (d3 size bs).1 ∧ IsB (d5 size bs).1 ∧ ∀ p ∈ (d6 size bs).1, IsB p := by
  obtain ⟨l1, l2, l3, l4, l5, l6⟩ := d_left size bs
  exact ⟨bI_isB _ _ _ (suf_isB l2 hB), bI_isB _ _ _ (suf_isB l4 hB), (lkN_isB _ _ _ (fun p hp => by cases hp) (suf_isB l5 hB)).1⟩
theorem cont_isB (size : Int) (bs : List Int) (hB : IsB bs) : IsB (contE size (d1 bs).1 (d2 bs).1 (d3 size bs).1 (d4 size bs).1 (d5 size bs).1 (d6 size bs).1) :=
  contE_isB _ _ _ _ _ _ _ (d_isB size bs hB).1 (d_isB size bs hB).2.1 (d_isB size bs hB).2.2
theorem decOk_iff (size : Int) (bs : List Int) : decOk size bs ↔ (endI (d6 size bs).2.2 (d6 size bs).2.1 = 0 ∧ codeE size (d1 bs).1 (d2 bs).1 (d3 size bs).1 (d4 size bs).1 (d5 size bs).1 (d6 size bs).1 = 0 ∧ contE size (d1 bs).1 (d2 bs).1 (d3 size bs).1 (d4 size bs).1 (d5 size bs).1 (d6 size bs).1 = bs) := by
  unfold decOk endI codeE contE
  constructor
  · rintro ⟨h1, h2, h3, h4⟩
    rw [if_pos h1, if_pos h2, if_pos h3, if_pos h3]
    exact ⟨rfl, rfl, h4⟩
  · rintro ⟨h1, h2, h3⟩
    by_cases hC : canI size (d1 bs).1 (d2 bs).1 (d3 size bs).1 (d4 size bs).1 (d5 size bs).1 (d6 size bs).1
    · rw [if_pos hC] at h3
      by_cases he : (d6 size bs).2.2 = 0
      · rw [if_pos he] at h1
        by_cases hr : (d6 size bs).2.1 = []
        · exact ⟨he, hr, hC, h3⟩
        · rw [if_neg hr] at h1; cases h1
      · rw [if_neg he] at h1; exact absurd h1 he
    · rw [if_neg hC] at h2; cases h2

def decC (size : Int) (bs : List Int) : Int := if decOk size bs then 0 else 5
def DecRes (w w' : World) (size : Int) (bs : List Int) (x : Value) : Prop :=
  (decOk size bs → RecV w' x (d1 bs).1 (d2 bs).1 (d3 size bs).1 (d4 size bs).1 (d5 size bs).1 (d6 size bs).1) ∧ (¬ decOk size bs → x = .agg #[.int .i64 0, .int .i64 0, .slice none 0 0, .int .i64 0, .slice none 0 0, .slice none 0 0]) ∧ Below w.heap.size w w'

theorem sixSet {w : World} {g : Nat} (x0 x1 x2 x3 x4 x5 : Value) : w.grownBy ((((((w.setCell ⟨g, 0, none⟩ x0).setCell ⟨g, 1, none⟩ x1).setCell ⟨g, 2, none⟩ x2).setCell ⟨g, 3, none⟩ x3).setCell ⟨g, 4, none⟩ x4).setCell ⟨g, 5, none⟩ x5) (some g) :=
  only_setCell (p := ⟨g, 5, none⟩) (only_setCell (p := ⟨g, 4, none⟩) (only_setCell (p := ⟨g, 3, none⟩) (only_setCell (p := ⟨g, 2, none⟩) (only_setCell (p := ⟨g, 1, none⟩) (only_setCell (p := ⟨g, 0, none⟩) (World.grownBy.refl _ _) (.inl rfl) _) (.inl rfl) _) (.inl rfl) _) (.inl rfl) _) (.inl rfl) _) (.inl rfl) _

theorem DecS.stored {W w w1 : World} {g gr : Nat} {e1 e2 e4 : Int} {tv lv ov : Value} {tb lb : List Int} {pss : List (List Int)} {rest : List Int} {er : Int} (h : DecS W w g gr e1 e2 e4 tv lv ov tb lb pss rest er) (hg : w.grownBy w1 (some W.heap.size)) :
    RecV w1 (.agg #[.int .i64 e1, .int .i64 e2, tv, .int .i64 e4, lv, ov]) e1 e2 tb e4 lb pss ∧ Below W.heap.size W w1 := by
  have hNB := rec_noB (e1 := 0) (e2 := 0) (e4 := 0) (tv := .slice none 0 0) (lv := .slice none 0 0) (ov := .slice none 0 0) ⟨_, _, _, rfl⟩ ⟨_, _, _, rfl⟩ ⟨_, _, _, rfl⟩
  exact ⟨⟨tv, lv, ov, rfl, h.ht.keepG h.kZ hNB hg, h.hl.keepG h.kZ hNB hg, (h.hO.keepGk h.kZ (by decide) hNB hg).sls⟩, below_of_only h.hb hg (Nat.le_refl _) h.hb.size⟩
theorem rec6f {w : World} {g : Nat} {t : TypeId} {cs : Array Value} (k : Blk w g t cs) :
    w.frozen? ⟨g, 0, none⟩ = false ∧ w.frozen? ⟨g, 1, none⟩ = false ∧ w.frozen? ⟨g, 2, none⟩ = false ∧ w.frozen? ⟨g, 3, none⟩ = false ∧ w.frozen? ⟨g, 4, none⟩ = false ∧ w.frozen? ⟨g, 5, none⟩ = false := ⟨k.frozen 0, k.frozen 1, k.frozen 2, k.frozen 3, k.frozen 4, k.frozen 5⟩

set_option maxRecDepth 100000 in
set_option maxHeartbeats 4000000 in
theorem dec_any (size : Int) (v : Value) (bs : List Int) (w : World) (hz0 : -9223372036854775808 ≤ size) (hz1 : size ≤ 9223372036854775807) (hl : bs.length ≤ 140737488351232) (hB : IsB bs) (hs : Sl w v (bs.map (Value.int .u8))) (hT : TzTab w) :
    Calls Tryd.prog 64 #[.int .i64 size, v] w fun e w' => ∃ x, e = .returned (.tuple #[x, .int .i64 (decC size bs)]) ∧ DecRes w w' size bs x := by
  obtain ⟨a, cap, rfl, hc, hm⟩ := hs.shape
  rw [List.length_map] at *
  have hb1 : Below w.heap.size w (w.alloc (.cells #[.int .i64 0, .int .i64 0, .slice none 0 0, .int .i64 0, .slice none 0 0, .slice none 0 0] 35)) := (Below.refl _ _).alloc (Nat.le_refl _) _
  have kZ := Blk.new w 35 #[.int .i64 0, .int .i64 0, .slice none 0 0, .int .i64 0, .slice none 0 0, .slice none 0 0]
  have hs1 := hs.below hb1 (Nat.le_refl _)
  have hsz1 : (w.alloc (.cells #[.int .i64 0, .int .i64 0, .slice none 0 0, .int .i64 0, .slice none 0 0, .slice none 0 0] 35)).heap.size = w.heap.size + 1 := by simp
  have HLL := Lib.hid hl
  have HB := Lib.hid hB
  have HSS := Lib.hid hs
  have HTT := Lib.hid hT
  obtain ⟨l1, l2, l3, l4, l5, l6⟩ := d_left size bs
  have HL1 := Lib.hid l1
  have HL2 := Lib.hid l2
  have HL3 := Lib.hid l3
  have HL4 := Lib.hid l4
  have HL5 := Lib.hid l5
  have HL6 := Lib.hid l6
  clear hs hl hB hT l1 l2 l3 l4 l5 l6
  go_enter Tryd.func64, Tryd.ntmps64
  go_wp2_with fail
  generalize (w.alloc (.cells #[.int .i64 0, .int .i64 0, .slice none 0 0, .int .i64 0, .slice none 0 0, .slice none 0 0] 35)) = w1 at *
  refine (copen_any _ bs w1 HLL.out hs1).mono ?_
  rintro e w2 ⟨g, rfl, hg, hr2, hb2⟩
  have kZ := kZ.belowS hb2
  have hbr := hb1.trans (hb2.mono hb1.size)
  have hgP : w.heap.size < g := by omega
  clear hs1 hb1 hb2 hsz1 hg
  have HU := Lib.hid (cruint_any g bs 0 255 w2 HB.out HLL.out hr2)
  go_wp2_with fail
  refine HU.out.mono ?_
  rintro e w3 ⟨rfl, hr3, hg3⟩
  have hr3 : Rd w3 g (d1 bs).2.1 (d1 bs).2.2 := hr3
  have kZ := kZ.grown hg3 (by intro e; cases e; omega)
  have hbr := below_of_only hbr hg3 (by omega) hbr.size
  clear hg3 HU hr2
  have HU := Lib.hid (cruint_any g (d1 bs).2.1 (d1 bs).2.2 1125899906842624 w3 (suf_isB HL1.out HB.out) (Nat.le_trans (suf_len HL1.out) HLL.out) hr3)
  go_wp2_with fail
  refine HU.out.mono ?_
  rintro e w4 ⟨rfl, hr4, hg4⟩
  have hr4 : Rd w4 g (d2 bs).2.1 (d2 bs).2.2 := hr4
  have kZ := kZ.grown hg4 (by intro e; cases e; omega)
  have hbr := below_of_only hbr hg4 (by omega) hbr.size
  clear hg4 HU hr3
  have HU := Lib.hid (crbytes_any g (d2 bs).2.1 (d2 bs).2.2 size w4 (suf_isB HL2.out HB.out) (Nat.le_trans (suf_len HL2.out) HLL.out) hr4)
  go_wp2_with fail
  refine HU.out.mono ?_
  rintro e w5 ⟨tv, rfl, ht5, hr5, hg5⟩
  have hr5 : Rd w5 g (d3 size bs).2.1 (d3 size bs).2.2 := hr5
  have ht5 : Sl w5 tv ((d3 size bs).1.map (Value.int .u8)) := ht5
  have kZ := kZ.grown hg5 (by intro e; cases e; omega)
  have hbr := below_of_only hbr hg5 (by omega) hbr.size
  clear hg5 HU hr4
  have HU := Lib.hid (cruint_any g (d3 size bs).2.1 (d3 size bs).2.2 32 w5 (suf_isB HL3.out HB.out) (Nat.le_trans (suf_len HL3.out) HLL.out) hr5)
  go_wp2_with fail
  refine HU.out.mono ?_
  rintro e w6 ⟨rfl, hr6, hg6⟩
  have ht6 := hr5.sl hg6 ht5
  have hr6 : Rd w6 g (d4 size bs).2.1 (d4 size bs).2.2 := hr6
  have kZ := kZ.grown hg6 (by intro e; cases e; omega)
  have hbr := below_of_only hbr hg6 (by omega) hbr.size
  clear hg6 HU hr5 ht5
  have HU := Lib.hid (crbytes_any g (d4 size bs).2.1 (d4 size bs).2.2 size w6 (suf_isB HL4.out HB.out) (Nat.le_trans (suf_len HL4.out) HLL.out) hr6)
  go_wp2_with fail
  refine HU.out.mono ?_
  rintro e w7 ⟨lv, rfl, hl7, hr7, hg7⟩
  have ht7 := hr6.sl hg7 ht6
  have hr7 : Rd w7 g (d5 size bs).2.1 (d5 size bs).2.2 := hr7
  have hl7 : Sl w7 lv ((d5 size bs).1.map (Value.int .u8)) := hl7
  have kZ := kZ.grown hg7 (by intro e; cases e; omega)
  have hbr := below_of_only hbr hg7 (by omega) hbr.size
  clear hg7 HU hr6 ht6
  have hE : (uI 255 bs 0).1 = (d1 bs).1 := rfl
  have hE2 : (uI 1125899906842624 (d1 bs).2.1 (d1 bs).2.2).1 = (d2 bs).1 := rfl
  have hE4 : (uI 32 (d3 size bs).2.1 (d3 size bs).2.2).1 = (d4 size bs).1 := rfl
  rw [hE, hE2, hE4]
  clear hE hE2 hE4
  obtain ⟨ta, tn, tc, rfl⟩ := ht7.val
  obtain ⟨la, lcn, lc, rfl⟩ := hl7.val
  have hbR : Below w7.heap.size w7 (w7.alloc (.cells #[.int .i64 (d1 bs).1, .int .i64 (d2 bs).1, .slice ta tn tc, .int .i64 (d4 size bs).1, .slice la lcn lc, .slice none 0 0] 35)) := (Below.refl _ _).alloc (Nat.le_refl _) _
  have hgr : g < w7.heap.size := by obtain ⟨_, hk, _⟩ := hr7; exact hk.lt
  have hWz := kZ.lt
  have hD : DecS w (w7.alloc (.cells #[.int .i64 (d1 bs).1, .int .i64 (d2 bs).1, .slice ta tn tc, .int .i64 (d4 size bs).1, .slice la lcn lc, .slice none 0 0] 35)) g w7.heap.size (d1 bs).1 (d2 bs).1 (d4 size bs).1 (.slice ta tn tc) (.slice la lcn lc) (.slice none 0 0) (d3 size bs).1 (d5 size bs).1 [] (d5 size bs).2.1 (d5 size bs).2.2 :=
    ⟨Blk.new w7 _ _, OSls.nil _ _, hr7.below hbR, ht7.below hbR (Nat.le_refl _), hl7.below hbR (Nat.le_refl _), kZ.belowS hbR, below_trans2 hbr hbR, by omega, hgP, hWz⟩
  have HDD := Lib.hid hD
  clear hD
  go_wp2_with fail
  generalize (w7.alloc (.cells #[.int .i64 (d1 bs).1, .int .i64 (d2 bs).1, .slice ta tn tc, .int .i64 (d4 size bs).1, .slice la lcn lc, .slice none 0 0] 35)) = w8 at *
  have hD := HDD.out
  have HV := Lib.hid (uI_val 255 bs 0 HB.out)
  have hv0 : 0 ≤ (d1 bs).1 := HV.out.1
  have hv1 : (d1 bs).1 ≤ 255 := by
    by_cases he : (uI 255 bs 0).2.2 = 0
    · exact HV.out.2.2.1 he
    · have := HV.out.2.2.2 he; show (uI 255 bs 0).1 ≤ 255; omega
  have HK := Lib.hid (links_any (d1 bs).1 hv0 hv1 w8 (HTT.out.below hD.hb))
  have HN := Lib.hid (links_le (d1 bs).1)
  have HD6 := Lib.hid (show d6 size bs = lkN size (linksI (d1 bs).1) ([], (d5 size bs).2.1, (d5 size bs).2.2) from rfl)
  have HL6 := Lib.hid HL6.out
  have HDS := Lib.hid hD
  have hN9 : linksI (d1 bs).1 ≤ 9 := HN.out
  clear hv0 hv1 HV hr7 ht7 hl7 kZ hbr hbR hD hWz
  generalize hLN : linksI (d1 bs).1 = N at *
  refine HK.out.mono ?_
  rintro e w9 ⟨rfl, rfl⟩
  go_wp2
  go_loopw [28] (fun i wr => ∃ (k : Nat) (ov : Value), i = .int .i64 k ∧ k ≤ N ∧ DecS w wr g w7.heap.size (d1 bs).1 (d2 bs).1 (d4 size bs).1 (.slice ta tn tc) (.slice la lcn lc) ov (d3 size bs).1 (d5 size bs).1 (lkN size k ([], (d5 size bs).2.1, (d5 size bs).2.2)).1 (lkN size k ([], (d5 size bs).2.1, (d5 size bs).2.2)).2.1 (lkN size k ([], (d5 size bs).2.1, (d5 size bs).2.2)).2.2) (fun i _ => N - (intOf i).toNat)
  case atStart => exact ⟨0, _, rfl, by omega, HDS.out⟩
  case round =>
    obtain ⟨k, ov, rfl, hk, hD⟩ := hrel
    clear HDS HK HDD
    by_cases hlt : k < N
    · have hkI : (k : Int) < (N : Int) := by omega
      have HLK := Lib.hid (lkN_len size k ([], (d5 size bs).2.1, (d5 size bs).2.2))
      have HSB := Lib.hid (suf_isB (HL6.out k) HB.out)
      have HSL := Lib.hid (Nat.le_trans (suf_len (HL6.out k)) HLL.out)
      have HST := Lib.hid (show lkN size (k + 1) ([], (d5 size bs).2.1, (d5 size bs).2.2) = lkStep size (lkN size k ([], (d5 size bs).2.1, (d5 size bs).2.2)) from rfl)
      generalize lkN size k ([], (d5 size bs).2.1, (d5 size bs).2.2) = st at *
      obtain ⟨s1, s2, s3⟩ := st
      simp only at hD HSB HSL HLK
      have HLK := Lib.hid (show s1.length + 1 ≤ 5000000000000 by have := HLK.out; simp only [List.length_nil] at this; omega)
      have hgr2 : w.heap.size ≤ wr.heap.size := hD.hb.size
      obtain ⟨oa, oc, rfl⟩ := hD.hO.val
      have q0 : wr.cell? ⟨w7.heap.size, 5, none⟩ = some (.slice oa s1.length oc) := hD.kR.cell 5
      have HX := Lib.hid (fun w1 (hb1 : Below wr.heap.size wr w1) => crbytes_any g s2 s3 size w1 HSB.out HSL.out (hD.below hb1).hr)
      have HDk := Lib.hid (fun w1 (hb1 : Below wr.heap.size wr w1) => hD.below hb1)
      have HBI := Lib.hid (show lkStep size (s1, s2, s3) = (s1 ++ [(bI size s2 s3).1], (bI size s2 s3).2.1, (bI size s2 s3).2.2) from rfl)
      generalize hbI : bI size s2 s3 = bi at *
      obtain ⟨P, P2, P3⟩ := bi
      clear hbI hD
      go_wp2
      go_region_law (first
        | (refine step_append_textR rfl (.tmp 31) (.tmp 35) rfl w.heap.size _ s1 rfl hD3.hO w2.heap.size 1 rfl (.slice xa xn xc) hc2 P hx2 HLK.out (Nat.le_trans hgr2 (Nat.le_trans hsz2 hbA.size)) ?_; intro l5 w5 hO5 hb5 hg5; obtain ⟨a5, c5, rfl⟩ := hO5.val; obtain ⟨q5, f5, hD5⟩ := hD3.app hO5 hg5)
        | (go_simp; go_at_call 63; refine (HX.out _ (by first | exact Below.refl _ _ | exact (Below.refl _ _).drew)).mono ?_; rintro e w2 ⟨x1, rfl, hx1, hR⟩; obtain ⟨xa, xn, xc, rfl⟩ := hx1.val; have hsz2 : wr.heap.size ≤ w2.heap.size := hR.2.size; have hD2 := DecS.read (HDk.out _ (by first | exact Below.refl _ _ | exact (Below.refl _ _).drew)) hR; have q7 : w2.cell? ⟨w7.heap.size, 5, none⟩ = some (.slice oa s1.length oc) := hD2.kR.cell 5; have hbA : Below w2.heap.size w2 (w2.alloc (.cells #[.slice xa xn xc] 25)) := (Below.refl _ _).alloc (Nat.le_refl _) _; have hD3 := hD2.below hbA; have q8 : (w2.alloc (.cells #[.slice xa xn xc] 25)).cell? ⟨w7.heap.size, 5, none⟩ = some (.slice oa s1.length oc) := hD3.kR.cell 5; have hx2 := hx1.below hbA (Nat.le_refl _); have hc2 := (Blk.new w2 25 #[.slice xa xn xc]).cell 0))
      all_goals go_wp2
      all_goals go_roundw
      all_goals first
        | exact ⟨k + 1, _, by go_num, by omega, by rw [HST.out, HBI.out]; have hD6 := hD5; rw [List.length_append, List.length_singleton] at hD6; exact hD6⟩
        | (simp [intOf]; omega)
    · obtain rfl : k = N := by omega
      have hkI : ¬ (k : Int) < (k : Int) := by omega
      rw [← HD6.out] at hD
      obtain ⟨oa, oc, rfl⟩ := hD.hO.val
      have hRV : RecV wr (.agg #[.int .i64 (d1 bs).1, .int .i64 (d2 bs).1, .slice ta tn tc, .int .i64 (d4 size bs).1, .slice la lcn lc, .slice oa (d6 size bs).1.length oc]) (d1 bs).1 (d2 bs).1 (d3 size bs).1 (d4 size bs).1 (d5 size bs).1 (d6 size bs).1 := ⟨_, _, _, rfl, hD.ht, hD.hl, hD.hO.sls⟩
      have HENC := Lib.hid (enc_any size _ _ _ _ _ _ _ wr hz0 hz1 hRV (HTT.out.below hD.hb))
      obtain ⟨c0, c1, c2, c3, c4, c5⟩ := rec6 hD.kR
      have HD := Lib.hid hD
      have HRV := Lib.hid hRV
      have HIB := Lib.hid (cont_isB size bs HB.out)
      have HDO := Lib.hid (decOk_iff size bs)
      clear hRV hD HD6 hLN hr3 hr4 hr5 hr6 hr7 ht5 hl7
      generalize codeE size (d1 bs).1 (d2 bs).1 (d3 size bs).1 (d4 size bs).1 (d5 size bs).1 (d6 size bs).1 = cE at *
      generalize contE size (d1 bs).1 (d2 bs).1 (d3 size bs).1 (d4 size bs).1 (d5 size bs).1 (d6 size bs).1 = bE at *
      go_wp2_with fail
      refine HENC.out.mono ?_
      rintro e w9 ⟨xE, rfl, hxE, hb9⟩
      have HD9 := Lib.hid (HD.out.below hb9)
      have HCE := Lib.hid (crend_any g _ _ w9 HD9.out.hr)
      obtain ⟨c0, c1, c2, c3, c4, c5⟩ := rec6 HD9.out.kR
      obtain ⟨z0, z1, z2, z3, z4, z5⟩ := rec6 HD9.out.kZ
      obtain ⟨f0, f1, f2, f3, f4, f5⟩ := rec6f HD9.out.kZ
      have hs9 := HSS.out.below (HD9.out.hb) (Nat.le_refl _)
      have HEQ := Lib.hid (bytesEq_any xE _ bE bs w9 hxE hs9 HIB.out HB.out)
      clear HENC hb9
      generalize endI (d6 size bs).2.2 (d6 size bs).2.1 = eE at *
      by_cases h1 : eE = 0
      · have h1' : (eE != 0) = false := by simpa using h1
        by_cases h2 : cE = 0
        · have h2' : (cE != 0) = false := by simpa using h2
          by_cases h3 : bE = bs
          · rw [decide_eq_true h3] at HEQ
            have HOK := Lib.hid (HDO.out.2 ⟨h1, h2, h3⟩)
            clear h1 h2 h3 HDO
            go_wp2_with fail
            refine HCE.out.mono ?_
            rintro e w10 ⟨rfl, rfl⟩
            go_wp2_with fail
            refine HEQ.out.mono ?_
            rintro e w10 ⟨rfl, rfl⟩
            go_wp2
            exact bodyPost_ret (by rw [results_cell_tmp rfl]; go_simp; exact rfl) rfl ⟨_, by rw [show decC size bs = 0 from by unfold decC; rw [if_pos HOK.out]], fun _ => (HD9.out.stored (sixSet _ _ _ _ _ _)).1, fun h => absurd HOK.out h, (HD9.out.stored (sixSet _ _ _ _ _ _)).2⟩
          · rw [decide_eq_false h3] at HEQ
            have HNO := Lib.hid (fun h => h3 (HDO.out.1 h).2.2)
            clear h1 h2 h3 HDO
            go_wp2_with fail
            refine HCE.out.mono ?_
            rintro e w10 ⟨rfl, rfl⟩
            go_wp2_with fail
            refine HEQ.out.mono ?_
            rintro e w10 ⟨rfl, rfl⟩
            go_wp2
            exact bodyPost_ret (by rw [results_cell_tmp rfl]; go_simp; exact rfl) rfl ⟨_, by rw [show decC size bs = 5 from by unfold decC; rw [if_neg HNO.out]], fun h => absurd h HNO.out, fun _ => rfl, (HD9.out.stored (sixSet _ _ _ _ _ _)).2⟩
        · have h2' : (cE != 0) = true := by simpa using h2
          have HNO := Lib.hid (fun h => h2 (HDO.out.1 h).2.1)
          clear h1 h2 HDO
          go_wp2_with fail
          refine HCE.out.mono ?_
          rintro e w10 ⟨rfl, rfl⟩
          go_wp2
          exact bodyPost_ret (by rw [results_cell_tmp rfl]; go_simp; exact rfl) rfl ⟨_, by rw [show decC size bs = 5 from by unfold decC; rw [if_neg HNO.out]], fun h => absurd h HNO.out, fun _ => rfl, (HD9.out.stored (sixSet _ _ _ _ _ _)).2⟩
      · have h1' : (eE != 0) = true := by simpa using h1
        have HNO := Lib.hid (fun h => h1 (HDO.out.1 h).1)
        clear h1 HDO
        go_wp2_with fail
        refine HCE.out.mono ?_
        rintro e w10 ⟨rfl, rfl⟩
        go_wp2
        exact bodyPost_ret (by rw [results_cell_tmp rfl]; go_simp; exact rfl) rfl ⟨_, by rw [show decC size bs = 5 from by unfold decC; rw [if_neg HNO.out]], fun h => absurd h HNO.out, fun _ => rfl, (HD9.out.stored (sixSet _ _ _ _ _ _)).2⟩

end Go.Proofs.YtjhannlioddkkaaDoor
