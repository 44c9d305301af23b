/- The walk of the law ChangeBack. -/
import Derived.Test.YtpdajglcpkfonaaChBytes
import Derived.Test.YtpdajglcpkfonaaChkRef
import Derived.Deep.RegionHeld3
import Derived.Deep.RegionLaw
namespace Go.Proofs.Ytpdajglcpkfonaa
open Go.RowKit
set_option linter.unusedVariables false

theorem step_append_sl {P : Program} {w : World} {ops : Array Oper} {o : Oper} {a : Act} {K : Act → World → Prop} {Q : Exit → Act → World → Prop} {E : Prop} (hgd : o.guard = none) (s x : Operand) (t : TypeId)
    (ho : o.op = .call { callee := .builtin .append, args := #[s, x], argTypes := #[t, t] })
    (base : Nat) (e : TypeId) (i : TypeInfo) (z : Value) (bytes : Nat) (ht : P.underlying t = some (.slice e)) (hi : P.info? e = some i) (hz : i.zero = some z)
    (hsize : i.size = 1) (hby : i.bytes = bytes) (hzs : z.cells.size = 1)
    (v : Value) (n : Nat) (xs : List Value) (hs : a.eval s = v) (hown : w.ownsRow base e 1 v n xs)
    (u : Value) (ys : List Value) (hx : a.eval x = u) (hsl : Sl w u ys) (h1 : ∀ u ∈ ys, u.oneCell' = true)
    (h63 : n + ys.length ≤ maxLen) (hbytes : (n + ys.length) * bytes ≤ 140737488355328) (hbase : base ≤ w.heap.size)
    (h : ∀ v' w', w'.ownsRow base e 1 v' (n + ys.length) (xs ++ ys) → w.grownBy w' v.ownBlock → K (a.put o.dst v') w') : if Region.wanted o (yielded ops a.tmps) = true then Oper.wp P o a w K Q else E := by
  have hw : Region.wanted o (yielded ops a.tmps) = true := by simp [Region.wanted, hgd]
  rw [if_pos hw]
  obtain ⟨ad, cap, rfl, hlc, hcm, hc⟩ := hsl
  have hr : ∃ v' w', (Builtin.append_ #[t, t] o.type #[v, .slice ad ys.length cap]).run P w = .ok v' w' ∧ w'.ownsRow base e 1 v' (n + ys.length) (xs ++ ys) ∧ w.grownBy w' v.ownBlock := by
    cases ad with
    | some ad =>
      obtain ⟨v', w', r1, r2, r3, _⟩ := run_append_own (P := P) w base t o.type e i z 1 bytes ht hi hz hsize hby hzs (by decide) v n xs hown ad ys.length cap ys (by omega) (by
        intro j u hu
        have hj : 0 < ys.length := by
          rcases Nat.lt_or_ge j ys.length with hlt | hge
          · omega
          · rw [List.getElem?_eq_none hge] at hu; cases hu
        obtain ⟨b, off, hab, hlt, hcell⟩ := hc hj
        cases hab
        rw [add_plain0]
        exact hcell j u hu) h1 h63 hbytes hbase
      exact ⟨v', w', r1, r2, r3⟩
    | none =>
      have hl0 : ys.length = 0 := by
        rcases Nat.eq_zero_or_pos ys.length with h0 | h0
        · exact h0
        · obtain ⟨b, off, hab, _⟩ := hc h0; cases hab
      obtain rfl : ys = [] := List.length_eq_zero_iff.1 hl0
      refine ⟨v, w, ?_, by simpa using hown, ⟨rfl, rfl, rfl, Nat.le_refl _, fun _ _ _ => rfl⟩⟩
      rcases hown.2 with ⟨rfl, rfl⟩ | ⟨g, cap', cur, rfl, _, _, hnc, _⟩
      · simp [Builtin.append_, run_underlying ht, sizeOf, typeInfo, hi, Builtin.lenOf, Builtin.firstCells]
      · simp [Builtin.append_, run_underlying ht, sizeOf, typeInfo, hi, Builtin.lenOf, Builtin.firstCells, hnc, storeCells]
  obtain ⟨v', w', hrun, r2, r3⟩ := hr
  unfold Oper.wp execOp
  simp only [ho, resolve, invoke, builtin, Sem.run_bind, Sem.run_pure, Result.andThen_ok, List.map_toArray, List.map_cons, List.map_nil, hs, hx, hrun]
  exact h v' w' r2 r3

set_option maxRecDepth 100000 in
set_option maxHeartbeats 4000000 in
theorem changeBack_walk (p0 p1 p2 p3 p4 p5 p6 p7 : Int) (vl : Value) (l0 : List Chg) (v : Value) (bs : List Int) (w : World) (hL0 : ∀ p ∈ l0, p.1.length ≤ 1048576 ∧ p.2.length ≤ 1048576) (hP0 : ∀ p ∈ l0, IsB p.1 ∧ IsB p.2) (hl0 : Bds w vl l0)
    (hn : bs.length ≤ 1048576) (hB : IsB bs) (hs : Sl w v (bs.map (Value.int .u8))) :
    Calls Try.prog 6 #[.agg #[.int .i64 p0, .int .i64 p1, .int .i64 p2, .int .i64 p3, .int .i64 p4, .int .i64 p5, .int .i64 p6, .int .i64 p7], vl, v] w fun e w' => e = .returned (.bool true) ∧ Below w.heap.size w w' := by
  have HN := Lib.hid hn
  have hb1 : Below w.heap.size w (w.alloc (.cells #[.int .i64 p0, .int .i64 p1, .int .i64 p2, .int .i64 p3, .int .i64 p4, .int .i64 p5, .int .i64 p6, .int .i64 p7] 49)) := (Below.refl _ _).alloc (Nat.le_refl _) _
  have kP := Blk.new w 49 #[.int .i64 p0, .int .i64 p1, .int .i64 p2, .int .i64 p3, .int .i64 p4, .int .i64 p5, .int .i64 p6, .int .i64 p7]
  have hs1 := hs.below hb1 (Nat.le_refl _)
  have hl1 := hl0.below hb1 (Nat.le_refl _)
  clear hn hs hl0
  go_enter Try.func6, Try.ntmps6
  go_wp2_with fail
  generalize (w.alloc (.cells #[.int .i64 p0, .int .i64 p1, .int .i64 p2, .int .i64 p3, .int .i64 p4, .int .i64 p5, .int .i64 p6, .int .i64 p7] 49)) = w1 at *
  refine (few12_any vl l0 w1 hl1).mono ?_
  rintro e w0 ⟨u, rfl, hl, rfl⟩
  have hL : ∀ p ∈ l0.take 40, p.1.length ≤ 1048576 ∧ p.2.length ≤ 1048576 := fun p hp => hL0 p (List.mem_of_mem_take hp)
  have hP : ∀ p ∈ l0.take 40, IsB p.1 ∧ IsB p.2 := fun p hp => hP0 p (List.mem_of_mem_take hp)
  have h40 : (l0.take 40).length ≤ 40 := by rw [List.length_take]; omega
  generalize l0.take 40 = l at *
  have HWL := Lib.hid (writeTo_len [] l h40 hL)
  have HWB := Lib.hid (writeTo_isB [] l (by intro x hx; cases hx) h40 hL hP)
  have H40 := Lib.hid h40
  have HRBK := Lib.hid (fun h => read_back (mi := p2) (mk := p3) (l := l) h hL bs)
  have hP1 : ∀ p ∈ l, IsB p.1 := fun p hp => (hP p hp).1
  clear hL0 hP0 hl1 hL h40
  obtain ⟨ua, uc, rfl, huc, hum⟩ := hl.shape
  obtain ⟨c0, c1, c2, c3, c4, c5, c6, c7⟩ := par8 kP
  have HCK := Lib.hid (check_any p0 p1 p2 p3 p4 p5 p6 p7 _ l w1 hP1 hl)
  go_wp2_with fail
  refine HCK.out.mono ?_
  rintro e w2 ⟨rfl, hb2⟩
  have hs2 := hs1.below hb2 (Nat.le_refl _)
  have hl2 := hl.below hb2 (Nat.le_refl _)
  have kP2 := kP.belowS hb2
  have hbr := hb1.trans (hb2.mono hb1.size)
  clear c0 c1 c2 c3 c4 c5 c6 c7 hs1 hl kP hb1 hb2 HCK
  obtain ⟨c0, c1, c2, c3, c4, c5, c6, c7⟩ := par8 kP2
  by_cases hC : chkI p2 p3 l = 0
  · have HRB := Lib.hid (HRBK.out hC)
    rw [hC]
    have HRD : Hid (∀ (v3 : Value) (w3 : World), Sl w3 v3 ((writeTo [] l l.length ++ bs).map (Value.int .u8)) → Calls Try.prog 26 #[.agg #[.int .i64 p0, .int .i64 p1, .int .i64 p2, .int .i64 p3, .int .i64 p4, .int .i64 p5, .int .i64 p6, .int .i64 p7], v3] w3 fun e w' => ∃ x r, e = .returned (.tuple #[x, r, .int .i64 0]) ∧ Bds w' x l ∧ Sl w' r (bs.map (Value.int .u8)) ∧ Below w3.heap.size w3 w') := fun v3 w3 h3 => by
      have := cread_any p0 p1 p2 p3 p4 p5 p6 p7 v3 (writeTo [] l l.length ++ bs) w3 (by have h1 := HWL.out; have h2 := HN.out; rw [List.length_append]; simp at h1; omega) (HWB.out.append hB) h3
      rw [HRB.out] at this
      exact this
    have HWR : Hid (∀ w3 : World, Below w2.heap.size w2 w3 → Calls Try.prog 27 #[.slice none 0 0, .slice ua l.length uc] w3 fun e w' => ∃ v', e = .returned v' ∧ w'.ownsRow w3.heap.size 5 1 v' (writeTo [] l l.length).length ((writeTo [] l l.length).map (Value.int .u8)) ∧ Below w3.heap.size w3 w') := fun w3 h3 =>
      write_any _ [] _ l w3 (Nat.le_trans H40.out (by decide)) (by have h1 := HWL.out; simp at h1; omega) (Sl.nil _) (hl2.below h3 (Nat.le_refl _))
    have HG := Lib.hid (fun w3 (h : Below w2.heap.size w2 w3) => par8 (kP2.belowS h))
    have HG0 := Lib.hid (par8 kP2)
    have HSV := Lib.hid (fun w3 (h : Below w2.heap.size w2 w3) => hs2.below h (Nat.le_refl _))
    have HLV := Lib.hid (fun w3 (h : Below w2.heap.size w2 w3) => hl2.below h (Nat.le_refl _))
    obtain ⟨va, vn, vc, rfl⟩ := hs2.val
    obtain ⟨i0, hi, hz0, hz1, hz2⟩ := info_parts info8x
    have HAL := Lib.hid (show (writeTo [] l l.length).length + bs.length ≤ 100000000 by have h1 := HWL.out; have h2 := HN.out; simp at h1; omega)
    generalize hWT : writeTo [] l l.length = WT at *
    clear c0 c1 c2 c3 c4 c5 c6 c7 hs2 hl2 hC HRBK HRB kP2 hWT
    go_wp2
    go_region_held3 (fun w' => w'.cell? ⟨w.heap.size, 0, none⟩ = some (.int .i64 p0) ∧ w'.cell? ⟨w.heap.size, 1, none⟩ = some (.int .i64 p1) ∧ w'.cell? ⟨w.heap.size, 2, none⟩ = some (.int .i64 p2) ∧ w'.cell? ⟨w.heap.size, 3, none⟩ = some (.int .i64 p3) ∧ w'.cell? ⟨w.heap.size, 4, none⟩ = some (.int .i64 p4) ∧ w'.cell? ⟨w.heap.size, 5, none⟩ = some (.int .i64 p5) ∧ w'.cell? ⟨w.heap.size, 6, none⟩ = some (.int .i64 p6) ∧ w'.cell? ⟨w.heap.size, 7, none⟩ = some (.int .i64 p7)) (first | exact HG0.out | exact hG3.out | exact hG4.out | exact hG5.out) (first | (go_at_call 26; refine (HRD.out _ _ hv4).mono ?_; rintro e w5 ⟨x5, r5, rfl, hx5, hr5, hb5⟩; have hb5 : Below w2.heap.size w2 w5 := below_trans2 hb4 hb5; have hG5 := Lib.hid (HG.out _ hb5)) | (refine step_append_sl rfl (.tmp 26) (.tmp 27) 23 rfl _ 5 i0 (.int .u8 0) 1 Try.underlying23 hi hz0 hz1 hz2 rfl _ WT.length _ (by simp [Act.eval]) ho3 (.slice va vn vc) (bs.map (Value.int .u8)) (by simp [Act.eval]) (HSV.out _ hb3) (one8 _) (by have := HAL.out; rw [List.length_map]; unfold maxLen; omega) (by have := HAL.out; rw [List.length_map]; omega) hsz3 ?_; intro v4 w4 ho4 hg4; have hb4 : Below w2.heap.size w2 w4 := below_grown hb3 ho3 hbs3 hb3.size hg4; have hG4 := Lib.hid (HG.out _ hb4); have hv4 : Sl w4 v4 ((WT ++ bs).map (Value.int .u8)) := by (rw [List.map_append]; exact Sl.of_owns ho4)) | (go_at_call 27; refine (HWR.out _ (by first | exact Below.refl _ _ | exact (Below.refl _ _).drew)).mono ?_; rintro e w3 ⟨y3, rfl, ho3, hb3⟩; have hsz3 := hb3.size; have hbs3 : w2.heap.size ≤ w2.drew.heap.size := Nat.le_refl _; have hb3 : Below w2.heap.size w2 w3 := ⟨hb3.os, hb3.tape, hb3.output, hb3.size, hb3.block⟩; have hG3 := Lib.hid (HG.out _ hb3)))
    have hbr := hbr.trans (hb5.mono hbr.size)
    have HSM := Lib.hid (sameB_any x5 (.slice ua l.length uc) l l w5 hP hP hx5 (HLV.out _ hb5))
    rw [decide_eq_true rfl] at HSM
    have hv5 := HSV.out _ hb5
    clear hx5 hb3 hb4 hv4 ho3 hG3 hG4 hG5
    go_wp2_with fail
    refine HSM.out.mono ?_
    rintro e w6 ⟨rfl, hb6⟩
    have hr6 := hr5.below hb6 (Nat.le_refl _)
    have hv6 := hv5.below hb6 (Nat.le_refl _)
    have hbr := hbr.trans (hb6.mono hbr.size)
    have HEQ := Lib.hid (bytesEq_same r5 _ bs w6 hr6 hv6 hB)
    clear hr6 hv6 hr5 hv5 HSM
    go_wp2_with fail
    refine HEQ.out.mono ?_
    rintro e w7 ⟨rfl, rfl⟩
    go_wp2_with fail
    refine (awake12_any _).mono ?_
    rintro e w8 ⟨rfl, hb8⟩
    have hbr := hbr.trans (hb8.mono hbr.size)
    go_wp2
    go_ret
    exact ⟨rfl, hbr⟩
  · have HC2 := Lib.hid (refCheck_any p0 p1 p2 p3 p4 p5 p6 p7 _ l w2 hP1 hl2)
    generalize hCC : chkI p2 p3 l = C at *
    unfold ChkPost at HC2
    rw [hCC] at HC2
    clear hs2 hl2 HRBK hCC
    go_wp2_with fail
    refine HC2.out.mono ?_
    rintro e w3 ⟨rfl, hb3⟩
    have hbr := hbr.trans (hb3.mono hbr.size)
    go_wp2_with fail
    refine (awake12_any _).mono ?_
    rintro e w4 ⟨rfl, hb4⟩
    have hbr := hbr.trans (hb4.mono hbr.size)
    go_wp2
    go_ret
    exact ⟨rfl, hbr⟩

end Go.Proofs.Ytpdajglcpkfonaa
