/- A device of any image, and its copy: the walk of the law DeviceImages. -/
import Derived.Test.YteaimjfpmacgeaaSameD
import Derived.Test.YteaimjfpmacgeaaDvU
import Derived.Test.YteaimjfpmacgeaaDvBad
import Derived.Test.YteaimjfpmacgeaaRvH
import Derived.Test.YteaimjfpmacgeaaRvI
import Derived.Test.YteaimjfpmacgeaaRvJ
import Derived.Deep.Cut
namespace Go.Proofs.Yteaimjfpmacgeaa
open Go.RowKit
set_option linter.unusedVariables false

/-- The reference's device where none of its own blocks turns, nor any text. -/
theorem RDev.apartOf {w w' : World} {y gl gk gw : Nat} {d : DSt} {bs : List Nat} (h : RDev w y gl gk gw d) (ho : Only bs w w') (hf : ∀ k ∈ bs, ∀ cur, ¬ Blk w k 5 cur) (n1 : y ∉ bs) (n2 : gl ∉ bs) (n3 : gk ∉ bs) (n4 : gw ∉ bs) : RDev w' y gl gk gw d := by
  obtain ⟨cl, ck, cw, h1, h2, h3, k⟩ := h.blk
  exact ⟨⟨cl, ck, cw, h1, h2, h3, ho.blk k n1⟩, h.rl.only ho hf n2, h.rk.only ho hf n3, h.rw.only ho n4, h.ne, h.pos, h.burns, h.ok⟩
theorem Pair.noText {w : World} {g b y gl gk gw : Nat} {d : DSt} (h : Pair w g b y gl gk gw d) : ∀ k ∈ [g, b, y, gl, gk, gw], ∀ cur, ¬ Blk w k 5 cur := by
  obtain ⟨cap, _, _, k1⟩ := h.dev.blk
  obtain ⟨c2, k2⟩ := h.dev.row.typ
  obtain ⟨cl, ck, cw, _, _, _, k3⟩ := h.ref.blk
  obtain ⟨c4, k4⟩ := h.ref.rl.typ
  obtain ⟨c5, k5⟩ := h.ref.rk.typ
  obtain ⟨c6, k6⟩ := h.ref.rw.typ
  intro k hk cur e
  simp only [List.mem_cons, List.not_mem_nil, or_false] at hk
  rcases hk with rfl | rfl | rfl | rfl | rfl | rfl
  · exact Blk.ne_ e k1 (by decide) rfl
  · exact Blk.ne_ e k2 (by decide) rfl
  · exact Blk.ne_ e k3 (by decide) rfl
  · exact Blk.ne_ e k4 (by decide) rfl
  · exact Blk.ne_ e k5 (by decide) rfl
  · exact Blk.ne_ e k6 (by decide) rfl
theorem Pair.lts {w : World} {g b y gl gk gw : Nat} {d : DSt} (h : Pair w g b y gl gk gw d) : ∀ k ∈ [g, b, y, gl, gk, gw], k < w.heap.size := by
  obtain ⟨cap, _, _, k1⟩ := h.dev.blk
  obtain ⟨c2, k2⟩ := h.dev.row.typ
  obtain ⟨cl, ck, cw, _, _, _, k3⟩ := h.ref.blk
  obtain ⟨c4, k4⟩ := h.ref.rl.typ
  obtain ⟨c5, k5⟩ := h.ref.rk.typ
  obtain ⟨c6, k6⟩ := h.ref.rw.typ
  intro k hk
  simp only [List.mem_cons, List.not_mem_nil, or_false] at hk
  rcases hk with rfl | rfl | rfl | rfl | rfl | rfl
  · exact k1.lt
  · exact k2.lt
  · exact k3.lt
  · exact k4.lt
  · exact k5.lt
  · exact k6.lt
theorem rd_B {d : DSt} (h : ∀ s ∈ d.l, s.ok) (i : Int) : IsB (d.rd i) := by
  unfold DSt.rd
  split
  · rw [List.getD_eq_getElem?_getD, List.getElem?_map]
    cases hs : d.l[i.toNat]? with
    | none => intro x hx; cases hx
    | some s => exact (h s (List.mem_of_getElem? hs)).2.2.1
  · intro x hx; cases hx
/-- A pair whose blocks are none of those that turn. -/
theorem Pair.apart {w w' : World} {g b y gl gk gw : Nat} {d : DSt} {bs : List Nat} (h : Pair w g b y gl gk gw d) (ho : Only bs w w') (hf : ∀ k ∈ bs, ∀ cur, ¬ Blk w k 5 cur) (hn : ∀ k ∈ [g, b, y, gl, gk, gw], k ∉ bs) : Pair w' g b y gl gk gw d :=
  ⟨h.dev.only ho (hn g (by simp)) (hn b (by simp)), h.ref.apartOf ho hf (hn y (by simp)) (hn gl (by simp)) (hn gk (by simp)) (hn gw (by simp))⟩
theorem Pair.below {w w' : World} {g b y gl gk gw : Nat} {d : DSt} (h : Pair w g b y gl gk gw d) (hb : Below w.heap.size w w') : Pair w' g b y gl gk gw d := ⟨h.dev.below hb, h.ref.below hb⟩

set_option maxRecDepth 100000 in
set_option maxHeartbeats 1000000 in
/-- No device: the awake answer. -/
theorem imagesNone (v vl : Value) (pss : List (List Int)) (l : List Stp) (i : Int) (w : World) (hv : Sls w v pss) (hl : Stps w vl l) (hlen : pss.length ≤ 100)
    (hD : ∀ w', Below w.heap.size w w' → Calls Try.prog 33 #[v] w' fun e w'' => e = .returned (.tuple #[.pointer none, .int .i64 1]) ∧ Below w'.heap.size w' w'')
    (hR : ∀ w', Below w.heap.size w w' → Calls Try.prog 34 #[v] w' fun e w'' => e = .returned (.tuple #[.pointer none, .int .i64 1]) ∧ Below w'.heap.size w' w'') :
    Calls Try.prog 8 #[v, vl, .int .i64 i] w fun e w' => e = .returned (.bool true) ∧ Below w.heap.size w w' := by
  obtain ⟨va, vc, rfl, hvc, hvm⟩ := hv.shape
  obtain ⟨la, lc, rfl, hlc, hlm⟩ := hl.shape
  have hI : ¬ (100 : Int) < (pss.length : Int) := by omega
  have HD := Lib.hid (hD w (Below.refl _ _))
  have HR := Lib.hid hR
  clear hD hR hv hl
  go_enter Try.func8, Try.ntmps8
  go_wp2_with fail
  refine HD.out.mono ?_
  rintro e w1 ⟨rfl, hb1⟩
  have HR1 := Lib.hid (HR.out w1 hb1)
  have HB1 := Lib.hid hb1
  clear hb1 HR HD
  go_wp2_with fail
  refine HR1.out.mono ?_
  rintro e w2 ⟨rfl, hb2⟩
  have HB2 := Lib.hid (below_trans2 HB1.out hb2)
  have HAW := Lib.hid (deviceAwake_any w2)
  clear hb2 HR1 HB1
  go_wp2_with fail
  refine HAW.out.mono ?_
  rintro e w3 ⟨rfl, hb3⟩
  have HB3 := Lib.hid (below_trans2 HB2.out hb3)
  clear hb3
  go_wp2
  go_ret
  exact ⟨rfl, HB3.out⟩

set_option maxRecDepth 100000 in
set_option maxHeartbeats 1000000 in
theorem imagesMany (v vl : Value) (pss : List (List Int)) (l : List Stp) (i : Int) (w : World) (hv : Sls w v pss) (hl : Stps w vl l) (hlen : 100 < pss.length) :
    Calls Try.prog 8 #[v, vl, .int .i64 i] w fun e w' => e = .returned (.bool true) ∧ Below w.heap.size w w' := by
  obtain ⟨va, vc, rfl, hvc, hvm⟩ := hv.shape
  obtain ⟨la, lc, rfl, hlc, hlm⟩ := hl.shape
  have hI : (100 : Int) < (pss.length : Int) := by omega
  have HAW := Lib.hid (deviceAwake_any w)
  clear hv hl
  go_enter Try.func8, Try.ntmps8
  go_wp2_with fail
  refine HAW.out.mono ?_
  rintro e w3 ⟨rfl, hb3⟩
  have HB3 := Lib.hid hb3
  clear hb3
  go_wp2
  go_ret
  exact ⟨rfl, HB3.out⟩

set_option maxRecDepth 100000 in
set_option maxHeartbeats 4000000 in
theorem imagesGood (v vl : Value) (pss : List (List Int)) (l : List Stp) (i : Int) (w : World) (hv : Sls w v pss) (hls : Stps w vl l) (hL : ∀ p ∈ l, StpB p) (h1 : 1 ≤ pss.length) (hlen : pss.length ≤ 100) (hg64 : ∀ p ∈ pss, p.length = 64 ∧ IsB p) (hi1 : -9223372036854775808 ≤ i) (hi2 : i ≤ 9223372036854775807) :
    Calls Try.prog 8 #[v, vl, .int .i64 i] w fun e w' => e = .returned (.bool true) ∧ Below w.heap.size w w' := by
  have HV := Lib.hid hv
  have HSL := Lib.hid hls
  have HLB := Lib.hid hL
  have HOF := Lib.hid (dof_ok v pss w hv h1 (by omega) hg64)
  have HROF := Lib.hid (fun w' (hb : Below w.heap.size w w') => rof_ok v pss w' (hv.below hb (Nat.le_refl _)) h1 (by omega) hg64)
  have HPL := Lib.hid (show (ofD pss).l.length ≤ 100 by simp [ofD]; exact hlen)
  obtain ⟨va, vc, rfl, hvc, hvm⟩ := hv.shape
  obtain ⟨la, lc, rfl, hlc, hlm⟩ := hls.shape
  have hI : ¬ (100 : Int) < (pss.length : Int) := by omega
  generalize ofD pss = d0 at *
  clear hv hls hL hg64 h1 hlen
  go_enter Try.func8, Try.ntmps8
  go_wp2_with fail
  refine HOF.out.mono ?_
  rintro e w1 ⟨g, b, rfl, hg, hb, hD1, hb1⟩
  have HR1 := Lib.hid (HROF.out w1 hb1)
  have HD1 := Lib.hid hD1
  have HB1 := Lib.hid hb1
  have HGE0 := Lib.hid (And.intro hg hb)
  clear hD1 hb1 hg hb HOF HROF
  go_wp2_with fail
  refine HR1.out.mono ?_
  rintro e w2 ⟨y, gl, gk, gw, rfl, hge, hR2, hb2⟩
  have HP2 := Lib.hid (show Pair w2 g b y gl gk gw d0 from ⟨HD1.out.below hb2, hR2⟩)
  have HB2 := Lib.hid (below_trans2 HB1.out hb2)
  have HGE := Lib.hid (show ∀ k ∈ [g, b, y, gl, gk, gw], w.heap.size ≤ k from by
    intro k hk
    rcases List.mem_cons.1 hk with rfl | hk
    · exact HGE0.out.1
    · rcases List.mem_cons.1 hk with rfl | hk
      · exact HGE0.out.2
      · exact Nat.le_trans HB1.out.size (hge k hk))
  have HIM := Lib.hid (dimage_any w2 g b d0 HP2.out.dev)
  clear hge hR2 hb2 HD1 HB1 HR1 HGE0
  go_wp2_with fail
  refine HIM.out.mono ?_
  rintro e w3 ⟨x, rfl, hx, hb3⟩
  obtain ⟨us, hul, har⟩ := hx.arow
  have HSP := Lib.hid (spoil_any w2.heap.size x us w3 (by rw [hul, List.length_map]; have := HPL.out; omega) har hb3.size)
  obtain ⟨xa, xc, rfl⟩ := hx.val
  rw [List.length_map] at HSP
  have HB3 := Lib.hid hb3
  clear hx hul har hb3 HIM
  go_wp2_with fail
  refine HSP.out.mono ?_
  rintro e w4 ⟨rfl, hb4⟩
  have hb24 : Below w2.heap.size w2 w4 := HB3.out.trans hb4
  have HP4 := Lib.hid (HP2.out.below hb24)
  have HB4 := Lib.hid (below_trans2 HB2.out hb24)
  have HRD := Lib.hid (dread_any w4 g b d0 i HP4.out.dev)
  clear hb4 hb24 HB3 HSP HP2 HB2
  go_wp2_with fail
  refine HRD.out.mono ?_
  rintro e w5 ⟨ra, rfl, hra, hb5⟩
  have HP5 := Lib.hid (HP4.out.below hb5)
  have HB5 := Lib.hid (below_trans2 HB4.out hb5)
  have HRR := Lib.hid (rread_any w5 y gl gk gw d0 i HP5.out.ref)
  have HRA := Lib.hid (hra.base (Nat.zero_le _))
  obtain ⟨xa1, xn1, xc1, e1⟩ := hra.sl.val
  subst e1
  clear hra hb5 HP4 HB4 HRD
  go_wp2_with fail
  refine HRR.out.mono ?_
  rintro e w6 ⟨rb, rfl, hrb, hb6⟩
  have HP6 := Lib.hid (HP5.out.below hb6)
  have HB6 := Lib.hid (below_trans2 HB5.out hb6)
  have HRA6 := Lib.hid (HRA.out.below hb6)
  have HRB6 := Lib.hid (hrb.base (Nat.zero_le _))
  obtain ⟨xa2, xn2, xc2, e2⟩ := hrb.sl.val
  subst e2
  have HCP := Lib.hid (dcopy_any w6 g b d0 HP6.out.dev)
  clear hrb hb6 HP5 HB5 HRR HRA
  go_wp2_with fail
  refine HCP.out.mono ?_
  rintro e w7 ⟨cg, cb, rfl, hcg, hcb, hD7, hb7⟩
  have HP7 := Lib.hid (HP6.out.below hb7)
  have HB7 := Lib.hid (below_trans2 HB6.out hb7)
  have HRC := Lib.hid (rcopy_any w7 y gl gk gw d0 HP7.out.ref)
  have HD7 := Lib.hid hD7
  have HCG := Lib.hid (And.intro hcg (And.intro hcb hb7.size))
  have HRA7 := Lib.hid (HRA6.out.below hb7)
  have HRB7 := Lib.hid (HRB6.out.below hb7)
  clear hcg hcb hD7 hb7 HB6 HCP HRA6 HRB6
  go_wp2_with fail
  refine HRC.out.mono ?_
  rintro e w8 ⟨cy, cgl, cgk, cgw, rfl, hcge, hR8, hb8⟩
  have HP8 := Lib.hid (HP7.out.below hb8)
  have HQ8 := Lib.hid (show Pair w8 cg cb cy cgl cgk cgw d0 from ⟨HD7.out.below hb8, hR8⟩)
  have HB8 := Lib.hid (below_trans2 HB7.out hb8)
  have HRA8 := Lib.hid (HRA7.out.below hb8)
  have HRB8 := Lib.hid (HRB7.out.below hb8)
  have HCGE := Lib.hid (show ∀ k ∈ [cg, cb, cy, cgl, cgk, cgw], w6.heap.size ≤ k from by
    intro k hk
    rcases List.mem_cons.1 hk with rfl | hk
    · exact HCG.out.1
    · rcases List.mem_cons.1 hk with rfl | hk
      · exact HCG.out.2.1
      · exact Nat.le_trans HCG.out.2.2 (hcge k hk))
  have HAP := Lib.hid (show ∀ k ∈ [g, b, y, gl, gk, gw], k ∉ [cg, cb, cy, cgl, cgk, cgw] from fun k hk hm => by
    have h1 := HP6.out.lts k hk
    have h2 := HCGE.out k hm
    omega)
  have HWS := Lib.hid (show ∀ k ∈ [cg, cb, cy, cgl, cgk, cgw], w.heap.size ≤ k from fun k hk => by
    have h1 := HP6.out.lts g (by simp)
    have h3 := HGE.out g (by simp)
    have h2 := HCGE.out k hk
    omega)
  clear hcge hR8 hb8 HP7 HB7 HD7 HCG HRC HRA7 HRB7 HP6 HCGE
  go_wp2
  go_loopw [66] (fun iv wr => ∃ (k : Nat) (d : DSt), k ≤ l.length ∧ iv = .int .i64 k ∧ Pair wr cg cb cy cgl cgk cgw d ∧ Pair wr g b y gl gk gw d0 ∧ OB wr 0 (.slice xa1 xn1 xc1) (d0.rd i) ∧ OB wr 0 (.slice xa2 xn2 xc2) (d0.rd i) ∧ Below w.heap.size w wr) (fun iv _ => l.length - (intOf iv).toNat)
  case atStart => exact ⟨0, d0, by omega, rfl, HQ8.out, HP8.out, HRA8.out, HRB8.out, HB8.out⟩
  case round =>
    clear HQ8 HP8 HRA8 HRB8 HB8
    obtain ⟨k, d, hk, rfl, hQ, hP, hra, hrb, hbw⟩ := hrel
    by_cases hlt : k < l.length
    · have hkI : (k : Int) < (l.length : Int) := by omega
      obtain ⟨sb, so, rfl, hsb, u, c0, c1, c2, hsu⟩ := HSL.out.at hlt
      have c0 := (hbw.cell (p := ⟨sb, so + k * 3, none⟩) hsb).trans c0
      have c1 := (hbw.cell (p := ⟨sb, so + k * 3 + 1, none⟩) hsb).trans c1
      have c2 := (hbw.cell (p := ⟨sb, so + k * 3 + 2, none⟩) hsb).trans c2
      have HPB := Lib.hid (HLB.out _ (List.getElem_mem hlt))
      generalize l[k] = p at *
      obtain ⟨op, si, sbs⟩ := p
      obtain ⟨ua, un, uc, rfl⟩ := hsu.val
      have hoff : Off (.slice ua un uc) [cg, cb, cy, cgl, cgk, cgw] := fun m hm o n c hn => hsu.neB (HWS.out m hm) o n c hn
      have hbA : Below wr.heap.size wr (wr.alloc (.cells #[.int .i64 op, .int .i64 si, .slice ua un uc] 36)) := (Below.refl _ _).alloc (Nat.le_refl _) _
      have kB := Blk.new wr 36 #[.int .i64 op, .int .i64 si, .slice ua un uc]
      obtain ⟨z0, z1, z2⟩ := cell3 kB
      have hbwA := hbw.trans (hbA.mono hbw.size)
      have HUA := Lib.hid (hsu.below hbwA (Nat.le_refl _))
      have HQA := Lib.hid (hQ.below hbA)
      have HPA := Lib.hid (hP.below hbA)
      have HAA := Lib.hid (hra.below hbA)
      have HBA2 := Lib.hid (hrb.below hbA)
      have HBA := Lib.hid hbwA
      have HOF := Lib.hid hoff
      clear hP hQ hra hrb hbw hsu hbA kB hbwA hoff
      by_cases hk20 : k < 20
      · have hkI2 : (k : Int) < 20 := by omega
        have HDO := Lib.hid (do_any _ cg cb cy cgl cgk cgw d op si (.slice ua un uc) sbs HQA.out HPB.out HUA.out HOF.out)
        go_wp2_with fail
        refine HDO.out.mono ?_
        rintro e w9 ⟨rfl, hQ9, hO9⟩
        have hnt := HQA.out.noText
        have HP9 := Lib.hid (HPA.out.apart hO9 hnt HAP.out)
        have HA9 := Lib.hid (HAA.out.only hO9 hnt)
        have HB9 := Lib.hid (HBA2.out.only hO9 hnt)
        have HW9 := Lib.hid (Only.belowOf HBA.out hO9 HBA.out.size HWS.out)
        have HQ9 := Lib.hid hQ9
        clear hQ9 hO9 hnt HDO
        go_wp2
        go_roundw
        case rel => exact ⟨k + 1, _, hlt, by go_num, HQ9.out, HP9.out, HA9.out, HB9.out, HW9.out⟩
        case measure => simp [intOf]; omega
      · have hkI2 : ¬ (k : Int) < 20 := by omega
        go_wp2
        go_roundw
        case rel => exact ⟨k + 1, d, hlt, by go_num, HQA.out, HPA.out, HAA.out, HBA2.out, HBA.out⟩
        case measure => simp [intOf]; omega
    · obtain rfl : k = l.length := by omega
      have hkI : ¬ (l.length : Int) < (l.length : Int) := by omega
      have HEQ := Lib.hid (bytesEq_any _ _ (d0.rd i) (d0.rd i) wr hra.sl hrb.sl (rd_B hP.dev.ok i) (rd_B hP.dev.ok i))
      rw [decide_eq_true rfl] at HEQ
      have HSM := Lib.hid (same_any wr g b y gl gk gw d0 hP)
      have HQ := Lib.hid hQ
      have HB := Lib.hid hbw
      have heq : (d0.rdE i == d0.rdE i) = true := by simp
      generalize d0.rdE i = rde at *
      clear hP hQ hra hrb hbw
      go_wp2_with fail
      refine HEQ.out.mono ?_
      rintro e w10 ⟨rfl, rfl⟩
      go_wp2_with fail
      refine HSM.out.mono ?_
      rintro e w11 ⟨rfl, hb11⟩
      have HSM2 := Lib.hid (same_any w11 cg cb cy cgl cgk cgw d (HQ.out.below hb11))
      have HB11 := Lib.hid (below_trans2 HB.out hb11)
      clear hb11 HSM HEQ
      go_wp2_with fail
      refine HSM2.out.mono ?_
      rintro e w12 ⟨rfl, hb12⟩
      have HB12 := Lib.hid (below_trans2 HB11.out hb12)
      have HAW := Lib.hid (deviceAwake_any w12)
      clear hb12 HSM2 HB11
      go_wp2_with fail
      refine HAW.out.mono ?_
      rintro e w13 ⟨rfl, hb13⟩
      have HB13 := Lib.hid (below_trans2 HB12.out hb13)
      clear hb13
      go_wp2
      go_ret
      exact ⟨rfl, HB13.out⟩

theorem deviceImages_walk (v : Value) (pss : List (List Int)) (vl : Value) (l : List Stp) (i : Int) (w : World) (hB : ∀ p ∈ pss, IsB p) (hv : Sls w v pss) (hL : ∀ p ∈ l, StpB p) (hls : Stps w vl l) (hi1 : -9223372036854775808 ≤ i) (hi2 : i ≤ 9223372036854775807) :
    Calls Try.prog 8 #[v, vl, .int .i64 i] w fun e w' => e = .returned (.bool true) ∧ Below w.heap.size w w' := by
  by_cases h100 : 100 < pss.length
  · exact imagesMany v vl pss l i w hv hls h100
  · by_cases h1 : 1 ≤ pss.length
    · by_cases hg : ∀ p ∈ pss, p.length = 64
      · exact imagesGood v vl pss l i w hv hls hL h1 (by omega) (fun p hp => ⟨hg p hp, hB p hp⟩) hi1 hi2
      · have hg' : ∃ p ∈ pss, p.length ≠ 64 := by simpa using hg
        exact imagesNone v vl pss l i w hv hls (by omega) (fun w' hb => dof_bad v pss w' (hv.below hb (Nat.le_refl _)) h1 (by omega) hg') (fun w' hb => rof_bad v pss w' (hv.below hb (Nat.le_refl _)) h1 (by omega) hg')
    · exact imagesNone v vl pss l i w hv hls (by omega)
        (fun w' hb => (dof_no v pss w' (hv.below hb (Nat.le_refl _)) (by omega)).mono (by rintro e w2 ⟨rfl, rfl⟩; exact ⟨rfl, Below.refl _ _⟩))
        (fun w' hb => (rof_no v pss w' (hv.below hb (Nat.le_refl _)) (by omega)).mono (by rintro e w2 ⟨rfl, rfl⟩; exact ⟨rfl, Below.refl _ _⟩))

end Go.Proofs.Yteaimjfpmacgeaa
