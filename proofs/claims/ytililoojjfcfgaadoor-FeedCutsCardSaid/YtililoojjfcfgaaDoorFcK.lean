/- Lists of lists of texts: how they read; slices.EqualFunc at them with SameTexts. Conditions: every text is made of bytes. The walk of FeedSums: it returns true. Conditions: none. The walk of FeedCuts: it returns true. Conditions: the texts are made of bytes. -/
import Derived.Test.YtililoojjfcfgaaDoorFcC
import Derived.Test.YtililoojjfcfgaaDoorFcD
import Derived.Test.YtililoojjfcfgaaDoorFdPM
import Derived.Test.YtililoojjfcfgaaDoorEqCutsM
import Derived.Test.YtililoojjfcfgaaDoorBytes
import Derived.Test.YtililoojjfcfgaaDoorFdQM
namespace Go.Proofs.YtililoojjfcfgaaDoor
open Go.RowKit
set_option linter.unusedVariables false

/-- A slice of slices of texts. -/
def Slss (w : World) (v : Value) (ll : List (List (List Int))) : Prop :=
  ∃ vs : List Value, Sl w v vs ∧ vs.length = ll.length ∧ ∀ (i : Nat) (u : Value) (l : List (List Int)), vs[i]? = some u → ll[i]? = some l → Sls w u l
theorem Slss.below {w w' : World} {v : Value} {ll : List (List (List Int))} (h : Slss w v ll) {B : Nat} (hb : Below B w w') (hB : w.heap.size ≤ B) : Slss w' v ll := by
  obtain ⟨vs, h1, h2, h3⟩ := h
  exact ⟨vs, h1.below hb hB, h2, fun i u l hu hl => (h3 i u l hu hl).below hb hB⟩
theorem Slss.shape {w : World} {v : Value} {ll : List (List (List Int))} (h : Slss w v ll) : ∃ a cap, v = .slice a ll.length cap ∧ ll.length ≤ cap ∧ cap ≤ 9223372036854775807 := by
  obtain ⟨vs, h1, h2, h3⟩ := h
  obtain ⟨a, cap, rfl, h4, h5⟩ := h1.shape
  rw [h2] at h4 ⊢
  exact ⟨a, cap, rfl, h4, h5⟩
theorem Slss.at {w : World} {a : Option Addr} {n cap : Nat} {ll : List (List (List Int))} (h : Slss w (.slice a n cap) ll) {k : Nat} (hk : k < ll.length) :
    ∃ b off, a = some ⟨b, off, none⟩ ∧ b < w.heap.size ∧ ∃ u, w.cell? ⟨b, off + k, none⟩ = some u ∧ Sls w u (ll.getD k []) := by
  obtain ⟨vs, h1, h2, h3⟩ := h
  obtain ⟨b, off, rfl, hb, hc⟩ := h1.addr (by omega)
  refine ⟨b, off, rfl, hb, vs[k], hc k _ (List.getElem?_eq_getElem (by omega)), h3 k _ _ (List.getElem?_eq_getElem (by omega)) ?_⟩
  rw [List.getD_eq_getElem?_getD, List.getElem?_eq_getElem hk]; rfl
theorem OLv.slss {w : World} {base : Nat} {v : Value} {ll : List (List (List Int))} (h : OLv w base v ll) : Slss w v ll := by
  obtain ⟨vs, h1, h2⟩ := h
  exact ⟨vs, Sl.of_owns h1.1, h2.len, fun i u l hu hl => (h2.at i u l hu hl).sls⟩

theorem shows_differ {ps qs : List (List (List Int))} {k : Nat} (h : ps.getD k [] ≠ qs.getD k []) : decide (ps = qs) = false := by
  simp only [decide_eq_false_iff_not]
  rintro rfl
  exact h rfl
theorem shows_same {ps qs : List (List (List Int))} (hl : ps.length = qs.length) (h : ∀ j, j < ps.length → ps.getD j [] = qs.getD j []) : decide (ps = qs) = true := by
  simp only [decide_eq_true_eq]
  refine List.ext_getElem hl fun j h1 h2 => ?_
  have := h j h1
  rwa [List.getD_eq_getElem?_getD, List.getD_eq_getElem?_getD, List.getElem?_eq_getElem h1, List.getElem?_eq_getElem h2] at this
theorem mem_getD {ps : List (List (List Int))} {k : Nat} (hk : k < ps.length) : ps.getD k [] ∈ ps := by rw [List.getD_eq_getElem?_getD, List.getElem?_eq_getElem hk]; exact List.getElem_mem hk

set_option maxHeartbeats 1000000 in
theorem equalShows_any (v1 v2 : Value) (ps qs : List (List (List Int))) (w : World) (h1 : Slss w v1 ps) (h2 : Slss w v2 qs) (hp : ∀ l ∈ ps, ∀ p ∈ l, IsB p) (hq : ∀ l ∈ qs, ∀ p ∈ l, IsB p) :
    Calls Tryd.prog 25 #[v1, v2, .func (.func 26) #[] #[]] w fun e w' => e = .returned (.bool (decide (ps = qs))) ∧ w = w' := by
  obtain ⟨a1, c1, rfl, hc1, hm1⟩ := h1.shape
  obtain ⟨a2, c2, rfl, hc2, hm2⟩ := h2.shape
  by_cases hl : ps.length = qs.length
  · have HL := Lib.hid hl
    rw [← hl] at h2 hc2
    rw [← hl]
    clear hl
    go_enter Tryd.func25, Tryd.ntmps25
    go_wp2
    go_loopw [17] (fun i wr => ∃ k : Nat, k ≤ ps.length ∧ i = .int .i64 k ∧ Hid (∀ j, j < k → ps.getD j [] = qs.getD j []) ∧ w = wr) (fun i _ => ps.length - (intOf i).toNat)
    case atStart => exact ⟨0, by omega, rfl, fun j hj => absurd hj (by omega), rfl⟩
    case round =>
      obtain ⟨k, hk, rfl, hall, rfl⟩ := hrel
      by_cases hlt : k < ps.length
      · obtain ⟨b1, o1, rfl, hb1, u1, hu1, hs1⟩ := h1.at hlt
        obtain ⟨b2, o2, rfl, hb2, u2, hu2, hs2⟩ := h2.at (k := k) (by rw [← HL.out]; exact hlt)
        have hkI : (k : Int) < (ps.length : Int) := by omega
        have he := Lib.hid (sameTexts_any u1 u2 _ _ w hs1 hs2 (hp _ (mem_getD hlt)) (hq _ (mem_getD (k := k) (by rw [← HL.out]; exact hlt))))
        clear hs1 hs2
        go_wp2_with fail
        refine he.out.mono ?_
        by_cases hxy : ps.getD k [] = qs.getD k []
        · rw [show decide (ps.getD k [] = qs.getD k []) = true by simpa using hxy]
          rintro e w1 ⟨rfl, rfl⟩
          have HX := Lib.hid hxy
          clear hxy hu1 hu2 he
          go_wp2
          go_roundw
          case rel =>
            refine ⟨k + 1, by omega, by go_num, fun j hj => ?_, by first | rfl | trivial⟩
            rcases Nat.lt_or_ge j k with h | h
            · exact hall.out j h
            · obtain rfl : j = k := by omega
              exact HX.out
          case measure => simp [intOf]; omega
        · rw [show decide (ps.getD k [] = qs.getD k []) = false by simpa using hxy]
          rintro e w1 ⟨rfl, rfl⟩
          have HD := Lib.hid (shows_differ hxy)
          clear hxy hu1 hu2 he
          go_wp2
          go_ret
          exact ⟨ret_bool HD.out.symm, rfl⟩
      · have hkI : ¬ (k : Int) < (ps.length : Int) := by omega
        have HD := Lib.hid (shows_same HL.out fun j hj => hall.out j (by omega))
        go_wp2
        go_ret
        exact ⟨ret_bool HD.out.symm, rfl⟩
  · have hI : ¬ (ps.length : Int) = (qs.length : Int) := by omega
    have HD := Lib.hid (show decide (ps = qs) = false by simp only [decide_eq_false_iff_not]; rintro rfl; exact hl rfl)
    clear hl
    go_enter Tryd.func25, Tryd.ntmps25
    go_wp2
    go_ret
    exact ⟨ret_bool HD.out.symm, rfl⟩

/-- What shows a page is made of bytes. -/
theorem showsI_isB (size : Int) (ll : List (List Chg)) (cs : List CutP) : ∀ l ∈ showsI size ll cs, ∀ p ∈ l, IsB p := by
  intro l hl p hp
  obtain ⟨c, _, rfl⟩ := List.mem_map.1 hl
  obtain ⟨d, _, rfl⟩ := List.mem_map.1 hp
  exact rootI_isB _ _ (fun q hq => leavesI_isB size _ q (List.mem_of_mem_drop (List.mem_of_mem_take hq)))

end Go.Proofs.YtililoojjfcfgaaDoor

namespace Go.Proofs.YtililoojjfcfgaaDoor
open Go.RowKit
set_option linter.unusedVariables false

set_option maxRecDepth 100000 in
set_option maxHeartbeats 1000000 in
theorem awake19_any (w : World) : Calls Tryd.prog 27 #[] w fun e w' => e = .returned (.bool true) ∧ Below w.heap.size w w' := by
  have hs0 : Sl (w.alloc (.cells #[.int .i64 2, .int .i64 3] 3)) (.slice (some ⟨w.heap.size, 0, none⟩) 2 2) ([2, 3].map (Value.int .i64)) := Sl.lit w #[.int .i64 2, .int .i64 3] 3 (by decide)
  have HC := Lib.hid (Cuts_any (some ⟨w.heap.size, 0, none⟩) 2 [2, 3] 1 3 (by simp) (by omega) (by omega) (by simp) _ hs0)
  have hb0 : Below w.heap.size w (w.alloc (.cells #[.int .i64 2, .int .i64 3] 3)) := (Below.refl _ w).alloc (Nat.le_refl _) _
  have HB0 := Lib.hid hb0
  clear hs0 hb0
  go_enter Tryd.func27, Tryd.ntmps27
  go_wp2_with fail
  refine HC.out.mono ?_
  rintro e w1 ⟨v, rfl, hr, hb1⟩
  have e0 : cutsI [2, 3] 1 3 = [⟨0, 1, 2⟩, ⟨1, 0, 2⟩] := by simp [cutsI, cutsFrom, cutTo]
  rw [e0] at hr
  have hc1 : CRow w1 v [(1, 2), (0, 2)] := CRow.of_owns (l := [(1, 2), (0, 2)]) (by simpa [flatP, flatC] using hr)
  have hb1' := HB0.out.trans (hb1.mono (by simp))
  have hlit : CRow (w1.alloc (.cells #[.int .i64 1, .int .i64 2, .int .i64 0, .int .i64 2] 43)) (.slice (some ⟨w1.heap.size, 0, none⟩) 2 2) [(1, 2), (0, 2)] :=
    CRow.of_owns (base := 0) (l := [(1, 2), (0, 2)]) (World.ownsRow_lit w1 #[.int .i64 1, .int .i64 2, .int .i64 0, .int .i64 2] 2 (Nat.zero_le _) (by decide) rfl)
  have hal : Below w1.heap.size w1 (w1.alloc (.cells #[.int .i64 1, .int .i64 2, .int .i64 0, .int .i64 2] 43)) := (Below.refl _ w1).alloc (Nat.le_refl _) _
  obtain ⟨va, vc, rfl, _⟩ := id hc1
  have HE := Lib.hid (eqCuts_any _ _ _ _ _ (hc1.below hal (Nat.le_refl _)) hlit)
  have HB1 := Lib.hid (hb1'.trans (hal.mono hb1'.size))
  have hbs := hb1'.size
  clear hr hc1 hb1 hlit hal hb1' HB0 HC
  go_wp2_with fail
  refine HE.out.mono ?_
  rintro e w2 ⟨rfl, hb2⟩
  have HB2 := Lib.hid (HB1.out.trans (hb2.mono HB1.out.size))
  clear hb2
  go_wp2
  go_ret
  exact ⟨ret_bool (by decide), HB2.out⟩


end Go.Proofs.YtililoojjfcfgaaDoor

namespace Go.Proofs.YtililoojjfcfgaaDoor
open Go.RowKit
set_option linter.unusedVariables false

set_option maxRecDepth 100000 in
set_option maxHeartbeats 4000000 in
theorem feedCuts_walk (cv : Value) (xs : List Int) (size : Int) (v : Value) (ll0 : List (List Chg)) (index limit : Int) (w : World) (ht : Tabs w) (hx64 : ∀ x ∈ xs, -9223372036854775808 ≤ x ∧ x ≤ 9223372036854775807) (hs : Sl w cv (xs.map (Value.int .i64))) (z0 : -9223372036854775808 ≤ size) (z1 : size ≤ 9223372036854775807)
    (hB0 : ∀ l ∈ ll0, ∀ p ∈ l, IsB p.1 ∧ IsB p.2) (hb0 : Bdss w v ll0) (hi1 : -9223372036854775808 ≤ index) (hi2 : index ≤ 9223372036854775807) (hl1 : -9223372036854775808 ≤ limit) (hl2 : limit ≤ 9223372036854775807) :
    Calls Tryd.prog 4 #[cv, .int .i64 size, v, .int .i64 index, .int .i64 limit] w fun e w' => e = .returned (.bool true) ∧ Below w.heap.size w w' := by
  obtain ⟨a, cp, rfl, hc1, hc2⟩ := hs.shape
  rw [List.length_map] at hs hc1 ⊢
  obtain ⟨va, vc, rfl, hvc, hvm⟩ := hb0.shape
  obtain ⟨n, hn⟩ : ∃ n, n = min xs.length 60 := ⟨_, rfl⟩
  obtain ⟨ys, hys⟩ : ∃ ys, ys = xs.take n := ⟨_, rfl⟩
  have hyl : ys.length = n := by rw [hys, List.length_take]; omega
  have hmin : min (xs.length : Int) 60 = (n : Int) := by omega
  have hncI : (n : Int) ≤ (cp : Int) := by omega
  have hn60 : n ≤ 60 := by omega
  have hs2 : Sl w (.slice a n cp) (ys.map (Value.int .i64)) := by rw [hys, List.map_take]; exact hs.take n (by simp; omega)
  have hy64 : ∀ x ∈ ys, -9223372036854775808 ≤ x ∧ x ≤ 9223372036854775807 := fun x hx => hx64 x (List.mem_of_mem_take (by rw [← hys]; exact hx))
  have hlen : (few19I ll0).length ≤ 10 := by unfold few19I; rw [List.length_map, List.length_take]; omega
  have h10 : ∀ l ∈ few19I ll0, l.length ≤ 10 := fun l hl => by obtain ⟨m, _, rfl⟩ := List.mem_map.1 hl; rw [List.length_take]; omega
  have hB : ∀ l ∈ few19I ll0, ∀ p ∈ l, IsB p.1 ∧ IsB p.2 := fun l hl p hp => by obtain ⟨m, hm, rfl⟩ := List.mem_map.1 hl; exact hB0 m (List.mem_of_mem_take hm) p (List.mem_of_mem_take hp)
  have HFW := Lib.hid (fun w1 (h : Below w.heap.size w w1) => few19_any _ ll0 w1 (hb0.below h (Nat.le_refl _)))
  generalize few19I ll0 = ll at *
  have HP := Lib.hid (fun v w1 (h : Below w.heap.size w w1) (hb : Bdss w1 v ll) => prove_any size v ll index limit w1 hlen h10 hB ⟨hi1, hi2⟩ ⟨hl1, hl2⟩ hb (ht.below h))
  have HQ := Lib.hid (fun v w1 (hb : Bdss w1 v ll) => refProve_any size v ll index limit w1 hlen h10 hB ⟨hi1, hi2⟩ ⟨hl1, hl2⟩ hb)
  have HC := Lib.hid (fun w1 (h : Below w.heap.size w w1) => Cuts_any a cp ys index limit hy64 ⟨hi1, hi2⟩ ⟨hl1, hl2⟩ (by omega) w1 (by rw [hyl]; exact hs2.below h (Nat.le_refl _)))
  have HCR := Lib.hid (fun w1 (h : Below w.heap.size w w1) => refCuts_any a cp ys index limit hy64 ⟨hi1, hi2⟩ ⟨hl1, hl2⟩ (by omega) w1 (by rw [hyl]; exact hs2.below h (Nat.le_refl _)))
  rw [hyl] at HC HCR
  have HSB := Lib.hid (showsI_isB size ll (cutsI (cntI ll) index limit))
  generalize showsI size ll (cutsI (cntI ll) index limit) = SH at *
  generalize cutsI ys index limit = CC at *
  clear hs hs2 hb0 ht hx64 hy64 hlen h10 hB hB0 hys hyl hn
  go_enter Tryd.func4, Tryd.ntmps4
  go_wp2_with fail
  go_region_held3 (fun w' => True) (exact trivial) (first | (go_at_call 19; refine (HFW.out _ (by first | exact Below.refl _ _ | exact (Below.refl _ _).drew)).mono ?_; rintro e w2 ⟨x2, rfl, hx2, hb2⟩; have hb2 : Below w.heap.size w w2 := ⟨hb2.os, hb2.tape, hb2.output, hb2.size, hb2.block⟩; obtain ⟨xa, xc, rfl, _, _⟩ := hx2.shape))
  all_goals (
    go_wp2_with fail
    refine (HP.out _ _ hb2 hx2).mono ?_
    rintro e w3 ⟨v3, rfl, hv3, hb3⟩
    have hx3 := hx2.below hb3 (Nat.le_refl _)
    have hb3 := below_trans2 hb2 hb3
    obtain ⟨pa, pc, rfl⟩ := hv3.val
    go_wp2_with fail
    refine (HQ.out _ _ hx3).mono ?_
    rintro e w4 ⟨v4, rfl, hv4, hb4⟩
    have hv3 := hv3.below hb4
    have hb4 := below_trans2 hb3 hb4
    obtain ⟨qa, qc, rfl⟩ := hv4.val
    go_wp2_with fail
    refine (HC.out _ hb4).mono ?_
    rintro e w5 ⟨v5, rfl, hv5, hb5⟩
    have hv3 := hv3.below hb5
    have hv4 := hv4.below hb5
    have hb5 := below_trans2 hb4 hb5
    have hr5 : CRow w5 v5 (rngs CC) := CRow.of_owns (l := rngs CC) (by rw [flatP_rngs]; simpa [rngs] using hv5)
    obtain ⟨ra, rc, rfl, _⟩ := id hr5
    go_wp2_with fail
    refine (HCR.out _ hb5).mono ?_
    rintro e w6 ⟨v6, rfl, hv6, hb6⟩
    have hv3 := hv3.below hb6
    have hv4 := hv4.below hb6
    have hr5 := hr5.below hb6 (Nat.le_refl _)
    have hb6 := below_trans2 hb5 hb6
    have hr6 : CRow w6 v6 (rngs CC) := CRow.of_owns (l := rngs CC) (by rw [flatP_rngs]; simpa [rngs] using hv6)
    obtain ⟨sa, sc, rfl, _⟩ := id hr6
    have HE := Lib.hid (eqCuts_any _ _ _ _ _ hr5 hr6)
    rw [decide_eq_true rfl] at HE
    go_wp2_with fail
    refine HE.out.mono ?_
    rintro e w7 ⟨rfl, hb7⟩
    have hv3 := hv3.below hb7
    have hv4 := hv4.below hb7
    have hb7 := below_trans2 hb6 hb7
    have HS := Lib.hid (equalShows_any _ _ _ _ _ hv3.slss hv4.slss HSB.out HSB.out)
    rw [decide_eq_true rfl] at HS
    go_wp2_with fail
    refine HS.out.mono ?_
    rintro e w8 ⟨rfl, rfl⟩
    go_wp2_with fail
    refine (awake19_any _).mono ?_
    rintro e w9 ⟨rfl, hb9⟩
    have hb9 := Lib.hid (below_trans2 hb7 hb9)
    go_wp2
    go_ret
    exact ⟨rfl, hb9.out⟩)

end Go.Proofs.YtililoojjfcfgaaDoor
