
/- Signed records: the walk of the law RecordOpened. Conditions: the texts are bytes. Signed records: the walk of the law RecordSeals. Conditions: the texts are bytes. How a [][]byte that came in is opened. How a record that came in is opened. How a signature that came in is opened. How a signed record that came in is opened. -/
import Derived.Test.YtjhannlioddkkaaGreatDoorRs2
import Derived.Test.YtjhannlioddkkaaGreatDoorRs4
import Derived.Test.YtjhannlioddkkaaGreatDoorRs1
import Derived.Deep.QuietTactic
import Derived.BigQuiet
import Derived.Deep.Cut
import Derived.Deep.RegionHeld3
import Derived.Test.YtjhannlioddkkaaGreatDoorTextA
import Derived.Deep.Matrix
import Derived.Test.YtjhannlioddkkaaGreatDoorRec1
import Derived.ProofKit
import Derived.OpenShut
import Derived.Deep.Slices
import Derived.Deep.Fields
import Derived.ChangeSame
import Derived.Lib.SmallJoins
import Derived.Lib.LaidTab
namespace Go.Proofs.YtjhannlioddkkaaGreatDoor
open Go.RowKit
set_option linter.unusedVariables false

theorem seal_split (ep ti : Int) (tr : List Int) (co : Int) (li : List Int) (ln : List (List Int)) (idx : Int) (parts path : List (List Int)) :
    sealI ep ti tr co li ln idx parts path = bytesI (encI ep ti tr co li ln) ++ (uintN idx.toNat ++ (parts.flatten ++ path.flatten)) := by
  show (((bytesI (encI ep ti tr co li ln) ++ uintN idx.toNat) ++ parts.flatten) ++ path.flatten) = _
  simp only [List.append_assoc]
theorem seal_read {size ep ti co idx : Int} {tr li : List Int} {ln parts path : List (List Int)} (h : sealOk size ep ti tr co li ln idx parts path) :
    opT (sealI ep ti tr co li ln idx parts path) = (encI ep ti tr co li ln, uintN idx.toNat ++ (parts.flatten ++ path.flatten), 0) := by
  have hs := enc_short h.1
  rw [seal_split]
  exact bytesI_read _ _ 4096 (by omega) (by omega)
theorem flat_isB {l : List (List Int)} (h : ∀ p ∈ l, IsB p) : IsB l.flatten := fun x hx => by
  obtain ⟨p, hp, hx⟩ := List.mem_flatten.1 hx
  exact h p hp x hx
theorem seal_isB {size ep ti co idx : Int} {tr li : List Int} {ln parts path : List (List Int)} (h : sealOk size ep ti tr co li ln idx parts path) (h1 : IsB tr) (h2 : IsB li) (h3 : ∀ p ∈ ln, IsB p) (h4 : ∀ p ∈ parts, IsB p) (h5 : ∀ p ∈ path, IsB p) :
    IsB (sealI ep ti tr co li ln idx parts path) := by
  rw [seal_split]
  have hs := enc_short h.1
  have hi := h.2.1
  exact (bytesI_isB (encI_isB h.1 h1 h2 h3) (by omega)).append ((uintN_isB _ (by omega)).append ((flat_isB h4).append (flat_isB h5)))
theorem seal_size {size ep ti co idx : Int} {tr li : List Int} {ln parts path : List (List Int)} (h : sealOk size ep ti tr co li ln idx parts path) : 1 ≤ size ∧ size ≤ 32 := by
  have := h.1.1; omega
theorem seal_opens {size ep ti co idx : Int} {tr li : List Int} {ln parts path : List (List Int)} (h : sealOk size ep ti tr co li ln idx parts path) :
    (¬ idx ≤ 2 ^ path.length - 1 → ¬ opOk size path.length (sealI ep ti tr co li ln idx parts path)) ∧ (idx ≤ 2 ^ path.length - 1 → opOk size path.length (sealI ep ti tr co li ln idx parts path)) := by
  obtain ⟨m1, m2⟩ := mr_back (seal_size h) h.2
  unfold opOk
  rw [seal_read h]
  refine ⟨fun hn ho => m1 hn ho.2.2.1, fun hn => ?_⟩
  obtain ⟨n1, n2, n3, n4, n5⟩ := m2 hn
  exact ⟨rfl, dec_enc_ok h.1, n1, by rw [Int.toNat_natCast]; exact n5⟩

end Go.Proofs.YtjhannlioddkkaaGreatDoor

namespace Go.Proofs.YtjhannlioddkkaaGreatDoor
open Go.RowKit
set_option linter.unusedVariables false

/-- What Open answers, in one word: what was read, or nothing. -/
structure OpX where
  ep : Int
  ti : Int
  tr : List Int
  co : Int
  li : List Int
  ln : List (List Int)
  ix : Int
  pa : List (List Int)
  pb : List (List Int)
def opX (size height : Int) (bs : List Int) : OpX :=
  if opOk size height bs then ⟨(d1 (opT bs).1).1, (d2 (opT bs).1).1, (d3 size (opT bs).1).1, (d4 size (opT bs).1).1, (d5 size (opT bs).1).1, (d6 size (opT bs).1).1, (mrU height.toNat (opT bs).2.1).1, mrParts size (mrU height.toNat (opT bs).2.1).2.1, mrPath size height (mrU height.toNat (opT bs).2.1).2.1⟩
  else ⟨0, 0, [], 0, [], [], 0, [], []⟩
theorem Sls.nilZ (w : World) : Sls w (.slice none 0 0) [] := ⟨[], Sl.nil _, rfl, fun i u bs hu _ => by simp at hu⟩
theorem OpRes.content {w w' : World} {size height : Int} {bs : List Int} {x : Value} (h : OpRes w w' size height bs x) :
    SgnV w' x (opX size height bs).ep (opX size height bs).ti (opX size height bs).tr (opX size height bs).co (opX size height bs).li (opX size height bs).ln (opX size height bs).ix (opX size height bs).pa (opX size height bs).pb ∧ Below w.heap.size w w' := by
  obtain ⟨h1, h2, h3⟩ := h
  refine ⟨?_, h3⟩
  unfold opX
  by_cases hk : opOk size height bs
  · rw [if_pos hk]; exact h1 hk
  · rw [if_neg hk, h2 hk]
    exact ⟨_, _, _, _, _, rfl, ⟨_, _, _, rfl, Sl.nil _, Sl.nil _, Sls.nilZ _⟩, ⟨_, _, rfl, Sls.nilZ _, Sls.nilZ _⟩⟩
theorem SgnV.shapes {w : World} {v : Value} {ep ti co ix : Int} {tr li : List Int} {ln pa pb : List (List Int)} (h : SgnV w v ep ti tr co li ln ix pa pb) :
    ∃ ta tn tc la lc lcc ka kc qa qc ra rc, v = .agg #[.int .i64 ep, .int .i64 ti, .slice ta tn tc, .int .i64 co, .slice la lc lcc, .slice ka ln.length kc, .int .i64 ix, .slice qa pa.length qc, .slice ra pb.length rc] ∧
      RecV w (.agg #[.int .i64 ep, .int .i64 ti, .slice ta tn tc, .int .i64 co, .slice la lc lcc, .slice ka ln.length kc]) ep ti tr co li ln ∧ SigV w (.agg #[.int .i64 ix, .slice qa pa.length qc, .slice ra pb.length rc]) ix pa pb := by
  obtain ⟨vt, vl, vk, vp, vq, rfl, hr, hs⟩ := h
  obtain ⟨ta, tn, tc, la, lc, lcc, ka, kc, he⟩ := hr.val
  cases he
  obtain ⟨qa, qc, ra, rc, he⟩ := hs.val
  cases he
  exact ⟨_, _, _, _, _, _, _, _, _, _, _, _, rfl, hr, hs⟩
theorem contS_isB {size ep ti co idx : Int} {tr li : List Int} {ln parts path : List (List Int)} (hB : (IsB tr ∧ IsB li ∧ ∀ p ∈ ln, IsB p) ∧ (∀ p ∈ parts, IsB p) ∧ ∀ p ∈ path, IsB p) : IsB (contS size ep ti tr co li ln idx parts path) := by
  unfold contS
  split
  · rename_i h
    exact seal_isB h hB.1.1 hB.1.2.1 hB.1.2.2 hB.2.1 hB.2.2
  · exact fun x hx => by cases hx

set_option maxRecDepth 100000 in
set_option maxHeartbeats 16000000 in
theorem recordSeals_walk (size height : Int) (vp : Value) (pub : List Int) (sv : Value) (ep ti : Int) (tr : List Int) (co : Int) (li : List Int) (ln : List (List Int)) (idx : Int) (parts path : List (List Int)) (v : Value) (bs : List Int) (w : World) (hT : TzTab w ∧ Tabs w) (hz0 : -9223372036854775808 ≤ size) (hz1 : size ≤ 9223372036854775807) (hh0 : -9223372036854775808 ≤ height) (hh1 : height ≤ 9223372036854775807)
    (hBp : IsB pub) (hp : Sl w vp (pub.map (Value.int .u8))) (hpl : pub.length ≤ 140737488351232) (hB : (IsB tr ∧ IsB li ∧ ∀ p ∈ ln, IsB p) ∧ (∀ p ∈ parts, IsB p) ∧ ∀ p ∈ path, IsB p) (hx0 : -9223372036854775808 ≤ idx) (hx1 : idx ≤ 9223372036854775807) (hg : SgnV w sv ep ti tr co li ln idx parts path)
    (hBb : IsB bs) (hs : Sl w v (bs.map (Value.int .u8))) (hl : bs.length ≤ 140737488351232) :
    Calls Tryz.prog 3 #[.int .i64 size, .int .i64 height, vp, sv, v] w fun e w' => e = .returned (.bool true) ∧ Below w.heap.size w w' := by
  have hgs := hg
  obtain ⟨ta, tn, tc, la, lc, lcc, ka, kc, pa, pc, qa, qc, rfl, -, -⟩ := hg.shapes
  obtain ⟨va, vn, vc, rfl⟩ := hs.val
  obtain ⟨ua, un, uc, rfl⟩ := hp.val
  have hb1 : Below w.heap.size w (w.alloc (.cells #[.int .i64 ep, .int .i64 ti, .slice ta tn tc, .int .i64 co, .slice la lc lcc, .slice ka ln.length kc, .int .i64 idx, .slice pa parts.length pc, .slice qa path.length qc] 29)) := (Below.refl _ _).alloc (Nat.le_refl _) _
  have kR := Blk.new w 29 #[.int .i64 ep, .int .i64 ti, .slice ta tn tc, .int .i64 co, .slice la lc lcc, .slice ka ln.length kc, .int .i64 idx, .slice pa parts.length pc, .slice qa path.length qc]
  have HB1 := Lib.hid hb1
  have HKR := Lib.hid kR
  obtain ⟨⟨c0, c1, c2, c3, c4, c5⟩, c6, c7, c8⟩ := rec9 kR
  have HSL := Lib.hid (seal_any size ep ti tr co li ln idx parts path _ _ hz0 hz1 (hgs.below hb1 (Nat.le_refl _)) (hT.1.below hb1))
  have HRS := Lib.hid (fun w' (h : Below w.heap.size w w') => rseal_any size ep ti tr co li ln idx parts path _ w' hz0 hz1 (hgs.below h (Nat.le_refl _)))
  have HOP := Lib.hid (fun w' (h : Below w.heap.size w w') => open_any size height (.slice va vn vc) bs w' hz0 hz1 hh0 hh1 hl hBb (hs.below h (Nat.le_refl _)) (hT.1.below h))
  have HRO := Lib.hid (fun w' (h : Below w.heap.size w w') => ropen_any size height (.slice va vn vc) bs w' hz0 hz1 hh0 hh1 hl hBb (hs.below h (Nat.le_refl _)))
  have HCK := Lib.hid (fun w' (h : Below w.heap.size w w') => pcheck_any size height (.slice ua un uc) pub ep ti tr co li ln idx parts path _ w' hz0 hz1 hx0 hx1 hB (hgs.below h (Nat.le_refl _)) hBp (hp.below h (Nat.le_refl _)) (hT.1.below h) (hT.2.below h))
  have HRC := Lib.hid (fun w' (h : Below w.heap.size w w') => rcheck_any size height (.slice ua un uc) pub ep ti tr co li ln idx parts path _ w' hz0 hz1 hx0 hx1 hB (hgs.below h (Nat.le_refl _)) hBp (hp.below h (Nat.le_refl _)))
  have HAW := Lib.hid (fun w' (h : Below w.heap.size w w') => awake13_any w' (hT.1.below h))
  have HCB := Lib.hid (contS_isB (size := size) (ep := ep) (ti := ti) (co := co) (idx := idx) hB)
  clear hgs hg hs hp hT hB hBp hBb kR hb1 hz0 hz1 hh0 hh1 hx0 hx1 hl hpl
  generalize contS size ep ti tr co li ln idx parts path = CB at *
  generalize codeS size ep ti tr co li ln idx parts path = CE at *
  generalize chkB size height pub ep ti tr co li ln idx parts path = CH at *
  generalize hCO : opC size height bs = CO at *
  clear hCO
  go_enter Tryz.func3, Tryz.ntmps3
  go_wp2_with fail
  generalize (w.alloc (.cells #[.int .i64 ep, .int .i64 ti, .slice ta tn tc, .int .i64 co, .slice la lc lcc, .slice ka ln.length kc, .int .i64 idx, .slice pa parts.length pc, .slice qa path.length qc] 29)) = w1 at *
  refine HSL.out.mono ?_
  rintro e w2 ⟨x2, rfl, hx2, hb2⟩
  have hbr := below_trans2 HB1.out hb2
  have kR := HKR.out.belowS hb2
  obtain ⟨xa, xn, xc, rfl⟩ := hx2.val
  clear c0 c1 c2 c3 c4 c5 c6 c7 c8 HKR hb2 HSL
  obtain ⟨⟨c0, c1, c2, c3, c4, c5⟩, c6, c7, c8⟩ := rec9 kR
  have HR1 := Lib.hid (HRS.out w2 hbr)
  clear HRS
  go_wp2_with fail
  refine HR1.out.mono ?_
  rintro e w3 ⟨y3, rfl, hy3, hb3⟩
  have hbr := below_trans2 hbr hb3
  have kR := kR.belowS hb3
  have hx3 := hx2.below hb3 (Nat.le_refl _)
  obtain ⟨ya, yn, yc, rfl⟩ := hy3.val
  clear c0 c1 c2 c3 c4 c5 c6 c7 c8 hb3 HR1 hx2
  have HO1 := Lib.hid (HOP.out w3 hbr)
  clear HOP
  go_wp2_with fail
  refine HO1.out.mono ?_
  rintro e w4 ⟨z4, rfl, hz4⟩
  obtain ⟨hz4, hb4⟩ := hz4.content
  obtain ⟨X, hX⟩ : ∃ X, X = opX size height bs := ⟨_, rfl⟩
  rw [← hX] at hz4
  have HXX := Lib.hid hX
  clear hX
  obtain ⟨ta4, tn4, tc4, la4, lc4, lcc4, ka4, kc4, pa4, pc4, qa4, qc4, rfl, hzr4, hzs4⟩ := hz4.shapes
  have hbA : Below w4.heap.size w4 (w4.alloc (.cells #[.int .i64 X.ep, .int .i64 X.ti, .slice ta4 tn4 tc4, .int .i64 X.co, .slice la4 lc4 lcc4, .slice ka4 X.ln.length kc4, .int .i64 X.ix, .slice pa4 X.pa.length pc4, .slice qa4 X.pb.length qc4] 29)) := (Below.refl _ _).alloc (Nat.le_refl _) _
  have kA := Blk.new w4 29 #[.int .i64 X.ep, .int .i64 X.ti, .slice ta4 tn4 tc4, .int .i64 X.co, .slice la4 lc4 lcc4, .slice ka4 X.ln.length kc4, .int .i64 X.ix, .slice pa4 X.pa.length pc4, .slice qa4 X.pb.length qc4]
  have hb4A := below_trans2 hb4 hbA
  have hbr := below_trans2 hbr hb4A
  have kR := kR.belowS hb4A
  have hx5 := hx3.below hb4A (Nat.le_refl _)
  have hy5 := hy3.below hb4A (Nat.le_refl _)
  have hzr5 := hzr4.below hbA (Nat.le_refl _)
  have hzs5 := hzs4.below hbA (Nat.le_refl _)
  clear hz4 hzr4 hzs4 hx3 hy3 hb4 hb4A hbA HO1
  have HO2 := Lib.hid (HRO.out _ hbr)
  clear HRO
  go_wp2_with fail
  generalize (w4.alloc (.cells #[.int .i64 X.ep, .int .i64 X.ti, .slice ta4 tn4 tc4, .int .i64 X.co, .slice la4 lc4 lcc4, .slice ka4 X.ln.length kc4, .int .i64 X.ix, .slice pa4 X.pa.length pc4, .slice qa4 X.pb.length qc4] 29)) = w5 at *
  generalize w4.heap.size = g1 at *
  refine HO2.out.mono ?_
  rintro e w6 ⟨z6, rfl, hz6⟩
  obtain ⟨hz6, hb6⟩ := hz6.content
  rw [← HXX.out] at hz6
  obtain ⟨ta6, tn6, tc6, la6, lc6, lcc6, ka6, kc6, pa6, pc6, qa6, qc6, rfl, hzr6, hzs6⟩ := hz6.shapes
  have hbA : Below w6.heap.size w6 (w6.alloc (.cells #[.int .i64 X.ep, .int .i64 X.ti, .slice ta6 tn6 tc6, .int .i64 X.co, .slice la6 lc6 lcc6, .slice ka6 X.ln.length kc6, .int .i64 X.ix, .slice pa6 X.pa.length pc6, .slice qa6 X.pb.length qc6] 29)) := (Below.refl _ _).alloc (Nat.le_refl _) _
  have kB := Blk.new w6 29 #[.int .i64 X.ep, .int .i64 X.ti, .slice ta6 tn6 tc6, .int .i64 X.co, .slice la6 lc6 lcc6, .slice ka6 X.ln.length kc6, .int .i64 X.ix, .slice pa6 X.pa.length pc6, .slice qa6 X.pb.length qc6]
  have hb6A := below_trans2 hb6 hbA
  have hbr := below_trans2 hbr hb6A
  have kR := kR.belowS hb6A
  have kA := kA.belowS hb6A
  have hx7 := hx5.below hb6A (Nat.le_refl _)
  have hy7 := hy5.below hb6A (Nat.le_refl _)
  have hzr7 := hzr5.below hb6A (Nat.le_refl _)
  have hzs7 := hzs5.below hb6A (Nat.le_refl _)
  have hur7 := hzr6.below hbA (Nat.le_refl _)
  have hus7 := hzs6.below hbA (Nat.le_refl _)
  clear hz6 hzr6 hzs6 hx5 hy5 hzr5 hzs5 hb6 hb6A hbA HO2
  go_upto_region 5 with (fail)
  generalize (w6.alloc (.cells #[.int .i64 X.ep, .int .i64 X.ti, .slice ta6 tn6 tc6, .int .i64 X.co, .slice la6 lc6 lcc6, .slice ka6 X.ln.length kc6, .int .i64 X.ix, .slice pa6 X.pa.length pc6, .slice qa6 X.pb.length qc6] 29)) = w7 at *
  generalize w6.heap.size = g2 at *
  have HK := Lib.hid (fun w' (h : Below w7.heap.size w7 w') => And.intro (rec9 (kA.belowS h)) (And.intro (rec9 (kB.belowS h)) (rec9 (kR.belowS h))))
  have hG := Lib.hid (HK.out _ (Below.refl _ _))
  have HEQ := Lib.hid (fun w' (h : Below w7.heap.size w7 w') => bytesEq_same _ _ CB w' (hx7.below h (Nat.le_refl _)) (hy7.below h (Nat.le_refl _)) HCB.out)
  have HS1 := Lib.hid (fun w' (h : Below w7.heap.size w7 w') => rsame_any _ _ X.ep X.ti X.tr X.co X.li X.ln w' (hzr7.below h (Nat.le_refl _)) (hur7.below h (Nat.le_refl _)))
  have HS2 := Lib.hid (fun w' (h : Below w7.heap.size w7 w') => ssame_any _ _ X.ix X.pa X.pb w' (hzs7.below h (Nat.le_refl _)) (hus7.below h (Nat.le_refl _)))
  have HC1 := Lib.hid (fun w' (h : Below w7.heap.size w7 w') => HCK.out w' (below_trans2 hbr h))
  have HC2 := Lib.hid (fun w' (h : Below w7.heap.size w7 w') => HRC.out w' (below_trans2 hbr h))
  have HA1 := Lib.hid (fun w' (h : Below w7.heap.size w7 w') => HAW.out w' (below_trans2 hbr h))
  have HBR := Lib.hid hbr
  generalize X.ln.length = n1 at *
  generalize X.pa.length = n2 at *
  generalize X.pb.length = n3 at *
  generalize X.ep = X1 at *
  generalize X.ti = X2 at *
  generalize X.co = X3 at *
  generalize X.ix = X4 at *
  clear hx7 hy7 hzr7 hzs7 hur7 hus7 kA kB kR hbr HCK HRC HAW HXX HCB
  go_region_held3 (fun w' => (((w'.cell? ⟨g1, 0, none⟩ = some (.int .i64 X1) ∧ w'.cell? ⟨g1, 1, none⟩ = some (.int .i64 X2) ∧ w'.cell? ⟨g1, 2, none⟩ = some (.slice ta4 tn4 tc4) ∧ w'.cell? ⟨g1, 3, none⟩ = some (.int .i64 X3) ∧ w'.cell? ⟨g1, 4, none⟩ = some (.slice la4 lc4 lcc4) ∧ w'.cell? ⟨g1, 5, none⟩ = some (.slice ka4 n1 kc4)) ∧ w'.cell? ⟨g1, 6, none⟩ = some (.int .i64 X4) ∧ w'.cell? ⟨g1, 7, none⟩ = some (.slice pa4 n2 pc4) ∧ w'.cell? ⟨g1, 8, none⟩ = some (.slice qa4 n3 qc4)) ∧
      ((w'.cell? ⟨g2, 0, none⟩ = some (.int .i64 X1) ∧ w'.cell? ⟨g2, 1, none⟩ = some (.int .i64 X2) ∧ w'.cell? ⟨g2, 2, none⟩ = some (.slice ta6 tn6 tc6) ∧ w'.cell? ⟨g2, 3, none⟩ = some (.int .i64 X3) ∧ w'.cell? ⟨g2, 4, none⟩ = some (.slice la6 lc6 lcc6) ∧ w'.cell? ⟨g2, 5, none⟩ = some (.slice ka6 n1 kc6)) ∧ w'.cell? ⟨g2, 6, none⟩ = some (.int .i64 X4) ∧ w'.cell? ⟨g2, 7, none⟩ = some (.slice pa6 n2 pc6) ∧ w'.cell? ⟨g2, 8, none⟩ = some (.slice qa6 n3 qc6)) ∧
      (w'.cell? ⟨w.heap.size, 0, none⟩ = some (.int .i64 ep) ∧ w'.cell? ⟨w.heap.size, 1, none⟩ = some (.int .i64 ti) ∧ w'.cell? ⟨w.heap.size, 2, none⟩ = some (.slice ta tn tc) ∧ w'.cell? ⟨w.heap.size, 3, none⟩ = some (.int .i64 co) ∧ w'.cell? ⟨w.heap.size, 4, none⟩ = some (.slice la lc lcc) ∧ w'.cell? ⟨w.heap.size, 5, none⟩ = some (.slice ka ln.length kc)) ∧ w'.cell? ⟨w.heap.size, 6, none⟩ = some (.int .i64 idx) ∧ w'.cell? ⟨w.heap.size, 7, none⟩ = some (.slice pa parts.length pc) ∧ w'.cell? ⟨w.heap.size, 8, none⟩ = some (.slice qa path.length qc))) (exact hG.out) (first
    | (go_at_call 13; refine (HA1.out wd hbd).mono ?_; rintro e we ⟨rfl, hbe⟩; have hbe := below_trans2 hbd hbe; have hG := Lib.hid (HK.out _ hbe))
    | (go_at_call 12; refine (HC2.out wc hbc).mono ?_; rintro e wd ⟨rfl, hbd⟩; have hbd := below_trans2 hbc hbd; have hG := Lib.hid (HK.out _ hbd))
    | (go_at_call 11; refine (HC1.out wb hbb).mono ?_; rintro e wc ⟨rfl, hbc⟩; have hbc := below_trans2 hbb hbc; have hG := Lib.hid (HK.out _ hbc))
    | (go_at_call 10; refine (HS2.out wa hba).mono ?_; rintro e wb ⟨rfl, hbb⟩; have hbb := below_trans2 hba hbb; have hG := Lib.hid (HK.out _ hbb))
    | (go_at_call 9; refine (HS1.out _ (by first | exact Below.refl _ _ | exact (Below.refl _ _).drew)).mono ?_; rintro e wa ⟨rfl, hba⟩; have hba : Below w7.heap.size w7 wa := ⟨hba.os, hba.tape, hba.output, hba.size, hba.block⟩; have hG := Lib.hid (HK.out _ hba))
    | (go_at_call 8; refine (HEQ.out _ (by first | exact Below.refl _ _ | exact (Below.refl _ _).drew)).mono ?_; rintro e w8 ⟨rfl, rfl⟩))
  all_goals
    have hbz := below_trans2 HBR.out hbe
    go_wp2
    go_ret
    exact ⟨rfl, hbz⟩

end Go.Proofs.YtjhannlioddkkaaGreatDoor

namespace Go.Proofs.YtjhannlioddkkaaGreatDoor
open Go.RowKit
set_option linter.unusedVariables false

theorem Sls.opened {W : World} {a : Addr} {base len cap : Nat} {A : Nat → Option Addr} {L C : Nat → Nat} {Z : Nat → List Int} (hl : len ≤ cap) (hm : cap ≤ maxLen)
    (hrow : ∀ r, r < cap → W.cell? (a.add r) = some (.slice (A r) (L r) (C r)) ∧ L r ≤ C r ∧ C r ≤ maxLen ∧ (Z r).length = C r ∧ (∀ n ∈ Z r, (Lit.int .u8 n).wf = true) ∧ (A r = none → C r = 0) ∧
      ∀ a', A r = some a' → base ≤ a'.block ∧ ∀ c, c < C r → W.cell? (a'.add c) = some (.int .u8 ((Z r).getD c 0))) :
    Sls W (.slice (some a) len cap) ((List.range len).map fun r => (Z r).take (L r)) := by
  refine ⟨(List.range len).map fun r => .slice (A r) (L r) (C r), ?_, by simp, fun i u bs hu hp => ?_⟩
  · have hlen : ((List.range len).map fun r => Value.slice (A r) (L r) (C r)).length = len := by simp
    refine ⟨some a, cap, by rw [hlen], by rw [hlen]; exact hl, hm, fun hp => ?_⟩
    rw [hlen] at hp
    obtain ⟨b, off, spot⟩ := a
    have h0 := (hrow 0 (by omega)).1
    have hspot : spot = none := by simpa [Addr.add] using World.cell?_spot h0
    subst hspot
    refine ⟨b, off, rfl, ?_, fun j u hu => ?_⟩
    · rcases Nat.lt_or_ge b W.heap.size with h | h
      · exact h
      · simp [Addr.add, World.cell?, Array.getElem?_eq_none h] at h0
    · have hj : j < len := by
        rcases Nat.lt_or_ge j len with h | h
        · exact h
        · rw [List.getElem?_eq_none (by omega)] at hu; cases hu
      rw [List.getElem?_map, List.getElem?_range hj] at hu
      simp only [Option.map_some, Option.some.injEq] at hu
      subst hu
      have h1 := (hrow j (by omega)).1
      have e : (⟨b, off, none⟩ : Addr).add j = ⟨b, off + j, none⟩ := by
        simp only [Addr.add]; split <;> simp_all
      rw [e] at h1
      exact h1
  · have hi : i < len := by
      rcases Nat.lt_or_ge i len with h | h
      · exact h
      · rw [List.getElem?_eq_none (by simpa using h)] at hu; cases hu
    rw [List.getElem?_map, List.getElem?_range hi] at hu hp
    simp only [Option.map_some, Option.some.injEq] at hu hp
    subst hu hp
    obtain ⟨_, h1, h2, h3, _, h5, h6⟩ := hrow i (by omega)
    cases hA : A i with
    | none =>
      have hc := h5 hA
      have hz : Z i = [] := List.length_eq_zero_iff.1 (by omega)
      rw [hz, hc, show L i = 0 by omega]
      exact Sl.nil W
    | some a' => exact Sl.opened h1 h2 h3 (fun c hc => (h6 a' hA).2 c (by omega))

theorem opened_isB {W : World} {a : Addr} {base len cap : Nat} {A : Nat → Option Addr} {L C : Nat → Nat} {Z : Nat → List Int} (hl : len ≤ cap)
    (hrow : ∀ r, r < cap → W.cell? (a.add r) = some (.slice (A r) (L r) (C r)) ∧ L r ≤ C r ∧ C r ≤ maxLen ∧ (Z r).length = C r ∧ (∀ n ∈ Z r, (Lit.int .u8 n).wf = true) ∧ (A r = none → C r = 0) ∧
      ∀ a', A r = some a' → base ≤ a'.block ∧ ∀ c, c < C r → W.cell? (a'.add c) = some (.int .u8 ((Z r).getD c 0))) :
    ∀ p ∈ (List.range len).map (fun r => (Z r).take (L r)), ∀ n ∈ p, (Lit.int .u8 n).wf = true := by
  intro p hp n hn
  obtain ⟨r, hr, rfl⟩ := List.mem_map.1 hp
  have hr : r < len := by simpa using hr
  exact (hrow r (by omega)).2.2.2.2.1 n (List.mem_of_mem_take hn)

end Go.Proofs.YtjhannlioddkkaaGreatDoor

namespace Go.Proofs.YtjhannlioddkkaaGreatDoor
open Go.ChangeShapes Go.WideShapes Go.Deep
set_option linter.unusedVariables false
variable {H : Type} {enc : TypeId × Value → H} {W : World} {held : Bool} {fuel : Nat} {x : DataW H × List MemPlace}

theorem rbytes_opened {v : Value} (h : DataW.trod enc Tryz.prog W 0 (fun _ => true) held fuel 22 [v] = some x) :
    ∃ bs : List Int, Sl W v (bs.map (Value.int .u8)) ∧ ∀ n ∈ bs, (Lit.int .u8 n).wf = true := by
  rcases open_ints Tryz.underlying22 Tryz.underlying5 (by kernel_rfl) h with ⟨hcs, _⟩ | ⟨a, l, c, zs, hcs, _, hl, hm, hz, _, hcell, hw⟩
  · obtain rfl : v = .slice none 0 0 := by simpa using hcs
    exact ⟨[], Sl.nil _, by simp⟩
  · obtain rfl : v = .slice (some a) l c := by simpa using hcs
    exact ⟨zs.take l, Sl.opened hl hm (by simpa using hz) hcell, fun n hn => hw n (List.mem_of_mem_take hn)⟩

theorem rtexts_opened {v : Value} (h : DataW.trod enc Tryz.prog W 0 (fun _ => true) held fuel 23 [v] = some x) :
    ∃ zs : List (List Int), Sls W v zs ∧ ∀ p ∈ zs, ∀ n ∈ p, (Lit.int .u8 n).wf = true := by
  rcases open_int_rows Tryz.underlying23 Tryz.underlying22 Tryz.underlying5 (by kernel_rfl) (by kernel_rfl) h with ⟨hcs, _⟩ | ⟨x, l, c, AA, LL, CC, ZZ, hcs, _, hl, hm, hx, hrow⟩
  · obtain rfl : v = .slice none 0 0 := by simpa using hcs
    exact ⟨[], ⟨[], Sl.nil _, rfl, fun i u bs hu _ => by simp at hu⟩, by simp⟩
  · obtain rfl : v = .slice (some x) l c := by simpa using hcs
    exact ⟨_, Sls.opened hl hm hrow, opened_isB hl hrow⟩

set_option maxRecDepth 100000 in
theorem record_opened {r : Reach} {b0 : Nat} {v : Value} {d : DataW H} {p : List MemPlace} (hv : Value.okWide Tryz.prog W r b0 25 v) (h : DataW.Trod enc Tryz.prog W 0 (fun _ => true) held 25 v d p) :
    ∃ ep ti tr co li ln, RecV W v ep ti tr co li ln ∧ (∀ n ∈ tr, (Lit.int .u8 n).wf = true) ∧ (∀ n ∈ li, (Lit.int .u8 n).wf = true) ∧ ∀ p ∈ ln, ∀ n ∈ p, (Lit.int .u8 n).wf = true := by
  obtain ⟨cs, rfl, hsz⟩ := okWide_struct Tryz.underlying25 hv
  have hsz := hsz.trans (show Tryz.prog.cellsOf 25 = 6 by kernel_rfl)
  obtain ⟨l⟩ := cs
  match l, hsz with
  | [c0, c1, c2, c3, c4, c5], _ =>
    obtain ⟨fu, hf⟩ := h
    obtain ⟨xs, n, _, hx, _, hlen, hg⟩ := DataW.trod_struct Tryz.underlying25 hf
    have hone : Tryz.prog.cellsOf 3 = 1 := by kernel_rfl
    have honeS : Tryz.prog.cellsOf 22 = 1 := by kernel_rfl
    have honeT : Tryz.prog.cellsOf 23 = 1 := by kernel_rfl
    have key : ∀ (c : Value) (y : DataW H × List MemPlace), DataW.trod enc Tryz.prog W 0 (fun _ => true) held n 3 [c] = some y → ∃ z : Int, c = .int .i64 z := fun c y hy => by
      obtain ⟨z, hz, _⟩ := DataW.trod_int Tryz.underlying3 hy
      exact ⟨z, by simpa using hz⟩
    match xs, hlen with
    | [y0, y1, y2, y3, y4, y5], _ =>
      obtain ⟨z0, rfl⟩ := key c0 y0 (by simpa [Value.cells, hone] using hg 0 _ rfl)
      obtain ⟨z1, rfl⟩ := key c1 y1 (by simpa [Value.cells, hone] using hg 1 _ rfl)
      obtain ⟨b2, s2, w2⟩ := rbytes_opened (v := c2) (x := y2) (by simpa [Value.cells, hone, honeS] using hg 2 _ rfl)
      obtain ⟨z3, rfl⟩ := key c3 y3 (by simpa [Value.cells, hone, honeS] using hg 3 _ rfl)
      obtain ⟨b4, s4, w4⟩ := rbytes_opened (v := c4) (x := y4) (by simpa [Value.cells, hone, honeS] using hg 4 _ rfl)
      obtain ⟨b5, s5, w5⟩ := rtexts_opened (v := c5) (x := y5) (by simpa [Value.cells, hone, honeS, honeT] using hg 5 _ rfl)
      exact ⟨z0, z1, b2, z3, b4, b5, ⟨_, _, _, rfl, s2, s4, s5⟩, w2, w4, w5⟩

theorem g64 : Tryz.prog.globalNamed "math/bits.deBruijn64tab" = some 1 := by kernel_rfl

end Go.Proofs.YtjhannlioddkkaaGreatDoor

namespace Go.Proofs.YtjhannlioddkkaaGreatDoor
open Go.ChangeShapes Go.WideShapes Go.Deep
set_option linter.unusedVariables false
variable {H : Type} {enc : TypeId × Value → H} {W : World} {held : Bool} {fuel : Nat} {x : DataW H × List MemPlace}

theorem sbytes_opened {v : Value} (h : DataW.trod enc Tryz.prog W 0 (fun _ => true) held fuel 22 [v] = some x) :
    ∃ bs : List Int, Sl W v (bs.map (Value.int .u8)) ∧ ∀ n ∈ bs, (Lit.int .u8 n).wf = true := by
  rcases open_ints Tryz.underlying22 Tryz.underlying5 (by kernel_rfl) h with ⟨hcs, _⟩ | ⟨a, l, c, zs, hcs, _, hl, hm, hz, _, hcell, hw⟩
  · obtain rfl : v = .slice none 0 0 := by simpa using hcs
    exact ⟨[], Sl.nil _, by simp⟩
  · obtain rfl : v = .slice (some a) l c := by simpa using hcs
    exact ⟨zs.take l, Sl.opened hl hm (by simpa using hz) hcell, fun n hn => hw n (List.mem_of_mem_take hn)⟩

theorem stexts_opened {v : Value} (h : DataW.trod enc Tryz.prog W 0 (fun _ => true) held fuel 23 [v] = some x) :
    ∃ zs : List (List Int), Sls W v zs ∧ ∀ p ∈ zs, ∀ n ∈ p, (Lit.int .u8 n).wf = true := by
  rcases open_int_rows Tryz.underlying23 Tryz.underlying22 Tryz.underlying5 (by kernel_rfl) (by kernel_rfl) h with ⟨hcs, _⟩ | ⟨x, l, c, AA, LL, CC, ZZ, hcs, _, hl, hm, hx, hrow⟩
  · obtain rfl : v = .slice none 0 0 := by simpa using hcs
    exact ⟨[], ⟨[], Sl.nil _, rfl, fun i u bs hu _ => by simp at hu⟩, by simp⟩
  · obtain rfl : v = .slice (some x) l c := by simpa using hcs
    exact ⟨_, Sls.opened hl hm hrow, opened_isB hl hrow⟩

set_option maxRecDepth 100000 in
theorem sig_opened {r : Reach} {b0 : Nat} {v : Value} {d : DataW H} {p : List MemPlace} (hv : Value.okWide Tryz.prog W r b0 27 v) (h : DataW.Trod enc Tryz.prog W 0 (fun _ => true) held 27 v d p) :
    ∃ idx parts path, SigV W v idx parts path ∧ (Lit.int .i64 idx).wf = true ∧ (∀ p ∈ parts, ∀ n ∈ p, (Lit.int .u8 n).wf = true) ∧ ∀ p ∈ path, ∀ n ∈ p, (Lit.int .u8 n).wf = true := by
  obtain ⟨cs, rfl, hsz⟩ := okWide_struct Tryz.underlying27 hv
  have hsz := hsz.trans (show Tryz.prog.cellsOf 27 = 3 by kernel_rfl)
  obtain ⟨l⟩ := cs
  match l, hsz with
  | [c0, c1, c2], _ =>
    obtain ⟨fu, hf⟩ := h
    obtain ⟨xs, n, _, hx, _, hlen, hg⟩ := DataW.trod_struct Tryz.underlying27 hf
    have hone : Tryz.prog.cellsOf 3 = 1 := by kernel_rfl
    have honeT : Tryz.prog.cellsOf 23 = 1 := by kernel_rfl
    match xs, hlen with
    | [y0, y1, y2], _ =>
      obtain ⟨z0, hz0, _, hw0⟩ := DataW.trod_int Tryz.underlying3 (show DataW.trod enc Tryz.prog W 0 (fun _ => true) held n 3 [c0] = some y0 by simpa [Value.cells, hone] using hg 0 _ rfl)
      obtain rfl : c0 = .int .i64 z0 := by simpa using hz0
      obtain ⟨b1, s1, w1⟩ := stexts_opened (v := c1) (x := y1) (by simpa [Value.cells, hone, honeT] using hg 1 _ rfl)
      obtain ⟨b2, s2, w2⟩ := stexts_opened (v := c2) (x := y2) (by simpa [Value.cells, hone, honeT] using hg 2 _ rfl)
      exact ⟨z0, b1, b2, ⟨_, _, rfl, s1, s2⟩, hw0, w1, w2⟩

end Go.Proofs.YtjhannlioddkkaaGreatDoor

namespace Go.Proofs.YtjhannlioddkkaaGreatDoor
open Go.ChangeShapes Go.WideShapes Go.Deep
set_option linter.unusedVariables false
variable {H : Type} {enc : TypeId × Value → H} {W : World} {held : Bool} {fuel : Nat} {x : DataW H × List MemPlace}

theorem rec_raw {c0 c1 c2 c3 c4 c5 : Value} (hf : DataW.trod enc Tryz.prog W 0 (fun _ => true) held fuel 25 [c0, c1, c2, c3, c4, c5] = some x) :
    ∃ ep ti tr co li ln, RecV W (.agg #[c0, c1, c2, c3, c4, c5]) ep ti tr co li ln ∧ (∀ n ∈ tr, (Lit.int .u8 n).wf = true) ∧ (∀ n ∈ li, (Lit.int .u8 n).wf = true) ∧ ∀ p ∈ ln, ∀ n ∈ p, (Lit.int .u8 n).wf = true := by
  obtain ⟨xs, n, _, hx, _, hlen, hg⟩ := DataW.trod_struct Tryz.underlying25 hf
  have hone : Tryz.prog.cellsOf 3 = 1 := by kernel_rfl
  have honeS : Tryz.prog.cellsOf 22 = 1 := by kernel_rfl
  have honeT : Tryz.prog.cellsOf 23 = 1 := by kernel_rfl
  have key : ∀ (c : Value) (y : DataW H × List MemPlace), DataW.trod enc Tryz.prog W 0 (fun _ => true) held n 3 [c] = some y → ∃ z : Int, c = .int .i64 z := fun c y hy => by
    obtain ⟨z, hz, _⟩ := DataW.trod_int Tryz.underlying3 hy
    exact ⟨z, by simpa using hz⟩
  match xs, hlen with
  | [y0, y1, y2, y3, y4, y5], _ =>
    obtain ⟨z0, rfl⟩ := key c0 y0 (by simpa [Value.cells, hone] using hg 0 _ rfl)
    obtain ⟨z1, rfl⟩ := key c1 y1 (by simpa [Value.cells, hone] using hg 1 _ rfl)
    obtain ⟨b2, s2, w2⟩ := rbytes_opened (v := c2) (x := y2) (by simpa [Value.cells, hone, honeS] using hg 2 _ rfl)
    obtain ⟨z3, rfl⟩ := key c3 y3 (by simpa [Value.cells, hone, honeS] using hg 3 _ rfl)
    obtain ⟨b4, s4, w4⟩ := rbytes_opened (v := c4) (x := y4) (by simpa [Value.cells, hone, honeS] using hg 4 _ rfl)
    obtain ⟨b5, s5, w5⟩ := rtexts_opened (v := c5) (x := y5) (by simpa [Value.cells, hone, honeS, honeT] using hg 5 _ rfl)
    exact ⟨z0, z1, b2, z3, b4, b5, ⟨_, _, _, rfl, s2, s4, s5⟩, w2, w4, w5⟩

theorem sig_raw {c0 c1 c2 : Value} (hf : DataW.trod enc Tryz.prog W 0 (fun _ => true) held fuel 27 [c0, c1, c2] = some x) :
    ∃ idx parts path, SigV W (.agg #[c0, c1, c2]) idx parts path ∧ (Lit.int .i64 idx).wf = true ∧ (∀ p ∈ parts, ∀ n ∈ p, (Lit.int .u8 n).wf = true) ∧ ∀ p ∈ path, ∀ n ∈ p, (Lit.int .u8 n).wf = true := by
  obtain ⟨xs, n, _, hx, _, hlen, hg⟩ := DataW.trod_struct Tryz.underlying27 hf
  have hone : Tryz.prog.cellsOf 3 = 1 := by kernel_rfl
  have honeT : Tryz.prog.cellsOf 23 = 1 := by kernel_rfl
  match xs, hlen with
  | [y0, y1, y2], _ =>
    obtain ⟨z0, hz0, _, hw0⟩ := DataW.trod_int Tryz.underlying3 (show DataW.trod enc Tryz.prog W 0 (fun _ => true) held n 3 [c0] = some y0 by simpa [Value.cells, hone] using hg 0 _ rfl)
    obtain rfl : c0 = .int .i64 z0 := by simpa using hz0
    obtain ⟨b1, s1, w1⟩ := stexts_opened (v := c1) (x := y1) (by simpa [Value.cells, hone, honeT] using hg 1 _ rfl)
    obtain ⟨b2, s2, w2⟩ := stexts_opened (v := c2) (x := y2) (by simpa [Value.cells, hone, honeT] using hg 2 _ rfl)
    exact ⟨z0, b1, b2, ⟨_, _, rfl, s1, s2⟩, hw0, w1, w2⟩

set_option maxRecDepth 100000 in
theorem signed_opened {r : Reach} {b0 : Nat} {v : Value} {d : DataW H} {p : List MemPlace} (hv : Value.okWide Tryz.prog W r b0 29 v) (h : DataW.Trod enc Tryz.prog W 0 (fun _ => true) held 29 v d p) :
    ∃ ep ti tr co li ln idx parts path, SgnV W v ep ti tr co li ln idx parts path ∧ ((∀ n ∈ tr, (Lit.int .u8 n).wf = true) ∧ (∀ n ∈ li, (Lit.int .u8 n).wf = true) ∧ ∀ p ∈ ln, ∀ n ∈ p, (Lit.int .u8 n).wf = true) ∧ (Lit.int .i64 idx).wf = true ∧ (∀ p ∈ parts, ∀ n ∈ p, (Lit.int .u8 n).wf = true) ∧ ∀ p ∈ path, ∀ n ∈ p, (Lit.int .u8 n).wf = true := by
  obtain ⟨cs, rfl, hsz⟩ := okWide_struct Tryz.underlying29 hv
  have hsz := hsz.trans (show Tryz.prog.cellsOf 29 = 9 by kernel_rfl)
  obtain ⟨l⟩ := cs
  match l, hsz with
  | [c0, c1, c2, c3, c4, c5, c6, c7, c8], _ =>
    obtain ⟨fu, hf⟩ := h
    obtain ⟨xs, n, _, hx, _, hlen, hg⟩ := DataW.trod_struct Tryz.underlying29 hf
    have h6 : Tryz.prog.cellsOf 25 = 6 := by kernel_rfl
    have h3 : Tryz.prog.cellsOf 27 = 3 := by kernel_rfl
    match xs, hlen with
    | [y0, y1], _ =>
      obtain ⟨ep, ti, tr, co, li, ln, hr, w1⟩ := rec_raw (c0 := c0) (c1 := c1) (c2 := c2) (c3 := c3) (c4 := c4) (c5 := c5) (x := y0) (by simpa [Value.cells, h6] using hg 0 _ rfl)
      obtain ⟨idx, parts, path, hs, w2⟩ := sig_raw (c0 := c6) (c1 := c7) (c2 := c8) (x := y1) (by simpa [Value.cells, h6, h3] using hg 1 _ rfl)
      obtain ⟨vt, vl, vk, e1, s1⟩ := hr
      obtain ⟨vp, vq, e2, s2⟩ := hs
      cases e1
      cases e2
      exact ⟨ep, ti, tr, co, li, ln, idx, parts, path, ⟨_, _, _, _, _, rfl, ⟨_, _, _, rfl, s1⟩, ⟨_, _, rfl, s2⟩⟩, w1, w2⟩

end Go.Proofs.YtjhannlioddkkaaGreatDoor
