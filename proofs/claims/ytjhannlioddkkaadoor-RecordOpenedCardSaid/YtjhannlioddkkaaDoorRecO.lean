
/- Signed records: the walk of the law RecordOpened. Conditions: the texts are bytes. -/
import Derived.Test.YtjhannlioddkkaaDoorOpn
import Derived.Test.YtjhannlioddkkaaDoorRsl
import Derived.Test.YtjhannlioddkkaaDoorSigS
import Derived.Test.YtjhannlioddkkaaDoorRec8
import Derived.Deep.QuietTactic
import Derived.BigQuiet
import Derived.Deep.Cut
namespace Go.Proofs.YtjhannlioddkkaaDoor
open Go.RowKit
set_option linter.unusedVariables false

theorem seal_split (ep ti : Int) (tr : List Int) (co : Int) (li : List Int) (ln : List (List Int)) (idx : Int) (parts path : List (List Int)) :
    sealI ep ti tr co li ln idx parts path = bytesI (encI ep ti tr co li ln) ++ (uintN idx.toNat ++ (parts.flatten ++ path.flatten)) := by
  show (((bytesI (encI ep ti tr co li ln) ++ uintN idx.toNat) ++ parts.flatten) ++ path.flatten) = _
  simp only [List.append_assoc]
theorem seal_read {size ep ti co idx : Int} {tr li : List Int} {ln parts path : List (List Int)} (h : sealOk size ep ti tr co li ln idx parts path) :
    opT (sealI ep ti tr co li ln idx parts path) = (encI ep ti tr co li ln, uintN idx.toNat ++ (parts.flatten ++ path.flatten), 0) := by
  have hs := enc_short h.1
  rw [seal_split]
  exact bytesI_read _ _ 4096 (by omega) (by omega)
theorem flat_isB {l : List (List Int)} (h : ∀ p ∈ l, IsB p) : IsB l.flatten := fun x hx => by
  obtain ⟨p, hp, hx⟩ := List.mem_flatten.1 hx
  exact h p hp x hx
theorem seal_isB {size ep ti co idx : Int} {tr li : List Int} {ln parts path : List (List Int)} (h : sealOk size ep ti tr co li ln idx parts path) (h1 : IsB tr) (h2 : IsB li) (h3 : ∀ p ∈ ln, IsB p) (h4 : ∀ p ∈ parts, IsB p) (h5 : ∀ p ∈ path, IsB p) :
    IsB (sealI ep ti tr co li ln idx parts path) := by
  rw [seal_split]
  have hs := enc_short h.1
  have hi := h.2.1
  exact (bytesI_isB (encI_isB h.1 h1 h2 h3) (by omega)).append ((uintN_isB _ (by omega)).append ((flat_isB h4).append (flat_isB h5)))
theorem seal_size {size ep ti co idx : Int} {tr li : List Int} {ln parts path : List (List Int)} (h : sealOk size ep ti tr co li ln idx parts path) : 1 ≤ size ∧ size ≤ 32 := by
  have := h.1.1; omega
theorem seal_opens {size ep ti co idx : Int} {tr li : List Int} {ln parts path : List (List Int)} (h : sealOk size ep ti tr co li ln idx parts path) :
    (¬ idx ≤ 2 ^ path.length - 1 → ¬ opOk size path.length (sealI ep ti tr co li ln idx parts path)) ∧ (idx ≤ 2 ^ path.length - 1 → opOk size path.length (sealI ep ti tr co li ln idx parts path)) := by
  obtain ⟨m1, m2⟩ := mr_back (seal_size h) h.2
  unfold opOk
  rw [seal_read h]
  refine ⟨fun hn ho => m1 hn ho.2.2.1, fun hn => ?_⟩
  obtain ⟨n1, n2, n3, n4, n5⟩ := m2 hn
  exact ⟨rfl, dec_enc_ok h.1, n1, by rw [Int.toNat_natCast]; exact n5⟩

set_option maxRecDepth 100000 in
set_option maxHeartbeats 4000000 in
theorem recordOpened_walk (size : Int) (sv : Value) (ep ti : Int) (tr : List Int) (co : Int) (li : List Int) (ln : List (List Int)) (idx : Int) (parts path : List (List Int)) (w : World) (hT : TzTab w) (hz0 : -9223372036854775808 ≤ size) (hz1 : size ≤ 9223372036854775807)
    (hB : (IsB tr ∧ IsB li ∧ ∀ p ∈ ln, IsB p) ∧ (∀ p ∈ parts, IsB p) ∧ ∀ p ∈ path, IsB p) (hg : SgnV w sv ep ti tr co li ln idx parts path) :
    Calls Tryd.prog 4 #[.int .i64 size, sv] w fun e w' => e = .returned (.bool true) ∧ Below w.heap.size w w' := by
  have hgs := hg
  obtain ⟨vt, vl, vk, vp, vq, rfl, hr, hs⟩ := hg
  obtain ⟨ta, tn, tc, la, lc, lcc, ka, kc, he⟩ := hr.val
  cases he
  obtain ⟨pa, pc, qa, qc, he⟩ := hs.val
  cases he
  have hb1 : Below w.heap.size w (w.alloc (.cells #[.int .i64 ep, .int .i64 ti, .slice ta tn tc, .int .i64 co, .slice la lc lcc, .slice ka ln.length kc, .int .i64 idx, .slice pa parts.length pc, .slice qa path.length qc] 37)) := (Below.refl _ _).alloc (Nat.le_refl _) _
  have kR := Blk.new w 37 #[.int .i64 ep, .int .i64 ti, .slice ta tn tc, .int .i64 co, .slice la lc lcc, .slice ka ln.length kc, .int .i64 idx, .slice pa parts.length pc, .slice qa path.length qc]
  have HG := Lib.hid (fun w' (h : Below w.heap.size w w') => hgs.below h (Nat.le_refl _))
  have HR := Lib.hid (fun w' (h : Below w.heap.size w w') => hr.below h (Nat.le_refl _))
  have HS := Lib.hid (fun w' (h : Below w.heap.size w w') => hs.below h (Nat.le_refl _))
  have HT := Lib.hid (fun w' (h : Below w.heap.size w w') => hT.below h)
  have HB := Lib.hid hB
  have HB1 := Lib.hid hb1
  have HKR := Lib.hid kR
  obtain ⟨⟨c0, c1, c2, c3, c4, c5⟩, c6, c7, c8⟩ := rec9 kR
  have HE := Lib.hid (seal_any size ep ti tr co li ln idx parts path _ _ hz0 hz1 (HG.out _ hb1) (HT.out _ hb1))
  have HRS := Lib.hid (fun w' (h : Below w.heap.size w w') => rseal_any size ep ti tr co li ln idx parts path _ w' hz0 hz1 (HG.out _ h))
  clear hgs hr hs hT hB kR
  by_cases hok : sealOk size ep ti tr co li ln idx parts path
  rotate_left
  · have hc : codeS size ep ti tr co li ln idx parts path = 1 := by unfold codeS; rw [if_neg hok]
    rw [hc] at HE HRS
    clear hok hc hb1
    go_enter Tryd.func4, Tryd.ntmps4
    go_wp2_with fail
    generalize (w.alloc (.cells #[.int .i64 ep, .int .i64 ti, .slice ta tn tc, .int .i64 co, .slice la lc lcc, .slice ka ln.length kc, .int .i64 idx, .slice pa parts.length pc, .slice qa path.length qc] 37)) = w1 at *
    refine HE.out.mono ?_
    rintro e w2 ⟨x2, rfl, hx2, hb2⟩
    have hbr := below_trans2 HB1.out hb2
    have kR2 := HKR.out.belowS hb2
    obtain ⟨⟨c0, c1, c2, c3, c4, c5⟩, c6, c7, c8⟩ := rec9 kR2
    have HE2 := Lib.hid (HRS.out w2 hbr)
    clear hx2 hb2 HE kR2
    go_wp2_with fail
    refine HE2.out.mono ?_
    rintro e w3 ⟨x3, rfl, hx3, hb3⟩
    have hbr := below_trans2 hbr hb3
    have HAW := Lib.hid (awake13_any w3 (HT.out _ hbr))
    clear hx3 hb3 HE2 c0 c1 c2 c3 c4 c5 c6 c7 c8
    go_wp2_with fail
    refine HAW.out.mono ?_
    rintro e w4 ⟨rfl, hb4⟩
    have hbr := below_trans2 hbr hb4
    go_wp2
    go_ret
    exact ⟨rfl, hbr⟩
  have hc : codeS size ep ti tr co li ln idx parts path = 0 := by unfold codeS; rw [if_pos hok]
  have hd : contS size ep ti tr co li ln idx parts path = sealI ep ti tr co li ln idx parts path := by unfold contS; rw [if_pos hok]
  rw [hc, hd] at HE
  obtain ⟨o1, o2⟩ := seal_opens hok
  have HO1 := Lib.hid o1
  have HO2 := Lib.hid o2
  have HRD := Lib.hid (seal_read hok)
  have HIB := Lib.hid (seal_isB hok HB.out.1.1 HB.out.1.2.1 HB.out.1.2.2 HB.out.2.1 HB.out.2.2)
  have HLE := Lib.hid (seal_len hok)
  have hi0 := hok.2.1
  have hp8 : path.length ≤ 8 := hok.2.2.2.1
  have HMB := Lib.hid ((mr_back (seal_size hok) hok.2).2)
  have HDD := Lib.hid (dec_enc size (Int.le_refl _) hok.1)
  obtain ⟨P, hP⟩ : ∃ P : Nat, P = 2 ^ path.length := ⟨_, rfl⟩
  have hPI : ((2 : Int) ^ path.length) = (P : Int) := by rw [show ((2 : Int) ^ path.length) = ((2 ^ path.length : Nat) : Int) by simp, ← hP]
  have hP1 : 1 ≤ P ∧ P ≤ 256 := by rw [hP]; exact ⟨Nat.one_le_two_pow, Nat.pow_le_pow_right (by omega) hp8⟩
  have hWP : IntKind.i64.wrap ((2 : Int) ^ path.length) = (P : Int) := by rw [hPI, IntKind.wrap_i64]; omega
  rw [hPI] at HO1 HO2 HMB
  have HP8 := Lib.hid hp8
  have hlen : ((path.length : Nat) : Int) < 64 := by omega
  clear hok hc hd hb1 o1 o2 hP hPI HRS
  generalize sealI ep ti tr co li ln idx parts path = B at *
  go_enter Tryd.func4, Tryd.ntmps4
  go_wp2_with fail
  generalize (w.alloc (.cells #[.int .i64 ep, .int .i64 ti, .slice ta tn tc, .int .i64 co, .slice la lc lcc, .slice ka ln.length kc, .int .i64 idx, .slice pa parts.length pc, .slice qa path.length qc] 37)) = w1 at *
  refine HE.out.mono ?_
  rintro e w2 ⟨x2, rfl, hx2, hb2⟩
  have hbr := below_trans2 HB1.out hb2
  have kR2 := HKR.out.belowS hb2
  obtain ⟨⟨c0, c1, c2, c3, c4, c5⟩, c6, c7, c8⟩ := rec9 kR2
  have HOP := Lib.hid (open_any size path.length x2 B w2 hz0 hz1 (by omega) (by omega) (by have := HLE.out; omega) HIB.out hx2 (HT.out _ hbr))
  clear hx2 hb2 HE
  go_wp2_with fail
  refine HOP.out.mono ?_
  rintro e w3 ⟨x3, rfl, hr1, hr2, hb3⟩
  have hbr := below_trans2 hbr hb3
  have kR3 := kR2.belowS hb3
  by_cases hI : idx ≤ (P : Int) - 1
  rotate_left
  · have hno := HO1.out (by omega)
    obtain rfl := hr2 hno
    have hoc : opC size path.length B = 5 := by unfold opC; rw [if_neg hno]
    rw [hoc]
    have hbA : Below w3.heap.size w3 (w3.alloc (.cells #[.int .i64 0, .int .i64 0, .slice none 0 0, .int .i64 0, .slice none 0 0, .slice none 0 0, .int .i64 0, .slice none 0 0, .slice none 0 0] 37)) := (Below.refl _ _).alloc (Nat.le_refl _) _
    have hbr := below_trans2 hbr hbA
    obtain ⟨⟨c0, c1, c2, c3, c4, c5⟩, c6, c7, c8⟩ := rec9 (kR3.belowS hbA)
    have hIP : (P : Int) ≤ idx := by omega
    clear hno hoc hr1 hr2 kR2 hI HOP hb3 kR3
    unfold z9v
    go_upto_region 6 with (fail)
    generalize (w3.alloc (.cells #[.int .i64 0, .int .i64 0, .slice none 0 0, .int .i64 0, .slice none 0 0, .slice none 0 0, .int .i64 0, .slice none 0 0, .slice none 0 0] 37)) = w4 at *
    go_quiet (fail)
    have hbr := below_drewN hbr nq
    generalize w4.drewN nq = w5 at *
    have HAW := Lib.hid (awake13_any w5 (HT.out _ hbr))
    go_wp2_with fail
    refine HAW.out.mono ?_
    rintro e w6 ⟨rfl, hb6⟩
    have hbr := below_trans2 hbr hb6
    go_wp2
    go_ret
    exact ⟨rfl, hbr⟩
  have hok := HO2.out hI
  have hoc : opC size path.length B = 0 := by unfold opC; rw [if_pos hok]
  rw [hoc]
  have hS := hr1 hok
  rw [HRD.out] at hS
  obtain ⟨n1, n2, n3, n4, n5⟩ := HMB.out hI
  simp only [Int.toNat_natCast] at hS
  rw [HDD.out.1, HDD.out.2.1, HDD.out.2.2.1, HDD.out.2.2.2.1, HDD.out.2.2.2.2.1, HDD.out.2.2.2.2.2, n2, n3, n4] at hS
  obtain ⟨vt, vl, vk, vp, vq, rfl, hSr, hSs⟩ := hS
  obtain ⟨ya, yn, yc, za, zc, zcc, ra, rc, he⟩ := hSr.val
  cases he
  obtain ⟨ia, ic, ja, jc, he⟩ := hSs.val
  cases he
  have hbA : Below w3.heap.size w3 (w3.alloc (.cells #[.int .i64 ep, .int .i64 ti, .slice ya yn yc, .int .i64 co, .slice za zc zcc, .slice ra ln.length rc, .int .i64 idx, .slice ia parts.length ic, .slice ja path.length jc] 37)) := (Below.refl _ _).alloc (Nat.le_refl _) _
  have kX := Blk.new w3 37 #[.int .i64 ep, .int .i64 ti, .slice ya yn yc, .int .i64 co, .slice za zc zcc, .slice ra ln.length rc, .int .i64 idx, .slice ia parts.length ic, .slice ja path.length jc]
  have HXR := Lib.hid (fun w' (h : Below w3.heap.size w3 w') => hSr.below h (Nat.le_refl _))
  have HXS := Lib.hid (fun w' (h : Below w3.heap.size w3 w') => hSs.below h (Nat.le_refl _))
  have hbr := below_trans2 hbr hbA
  have kR4 := kR3.belowS hbA
  obtain ⟨⟨c0, c1, c2, c3, c4, c5⟩, c6, c7, c8⟩ := rec9 kR4
  have hIP : ¬ (P : Int) ≤ idx := by omega
  clear hok hoc hr1 hr2 kR2 hI HOP hb3 kR3 hSr hSs n1 n2 n3 n4 n5
  go_upto_region 6 with (fail)
  generalize (w3.alloc (.cells #[.int .i64 ep, .int .i64 ti, .slice ya yn yc, .int .i64 co, .slice za zc zcc, .slice ra ln.length rc, .int .i64 idx, .slice ia parts.length ic, .slice ja path.length jc] 37)) = w4 at *
  go_quiet (fail)
  have hbq : Below w4.heap.size w4 (w4.drewN nq) := below_drewN (Below.refl _ _) nq
  have hbA := below_trans2 hbA hbq
  have hbr := below_trans2 hbr hbq
  have kR5 := kR4.belowS hbq
  have kX5 := kX.belowS hbq
  generalize w4.drewN nq = w5 at *
  clear c0 c1 c2 c3 c4 c5 c6 c7 c8 kR4 kX hbq
  obtain ⟨⟨c0, c1, c2, c3, c4, c5⟩, c6, c7, c8⟩ := rec9 kR5
  obtain ⟨⟨e0, e1, e2, e3, e4, e5⟩, e6, e7, e8⟩ := rec9 kX5
  have HS1 := Lib.hid (rsame_any _ _ ep ti tr co li ln w5 (HXR.out w5 hbA) (HR.out w5 hbr))
  go_wp2_with fail
  refine HS1.out.mono ?_
  rintro e w6 ⟨rfl, hb6⟩
  have hbA := below_trans2 hbA hb6
  have hbr := below_trans2 hbr hb6
  have kR6 := kR5.belowS hb6
  have kX6 := kX5.belowS hb6
  clear c0 c1 c2 c3 c4 c5 c6 c7 c8 e0 e1 e2 e3 e4 e5 e6 e7 e8 kR5 kX5 hb6 HS1
  obtain ⟨-, c6, c7, c8⟩ := rec9 kR6
  obtain ⟨-, e6, e7, e8⟩ := rec9 kX6
  have HS2 := Lib.hid (ssame_any _ _ idx parts path w6 (HXS.out w6 hbA) (HS.out w6 hbr))
  go_wp2_with fail
  refine HS2.out.mono ?_
  rintro e w7 ⟨rfl, hb7⟩
  have hbr := below_trans2 hbr hb7
  have HAW := Lib.hid (awake13_any w7 (HT.out _ hbr))
  go_wp2_with fail
  refine HAW.out.mono ?_
  rintro e w8 ⟨rfl, hb8⟩
  have hbr := below_trans2 hbr hb8
  go_wp2
  go_ret
  exact ⟨rfl, hbr⟩

end Go.Proofs.YtjhannlioddkkaaDoor
