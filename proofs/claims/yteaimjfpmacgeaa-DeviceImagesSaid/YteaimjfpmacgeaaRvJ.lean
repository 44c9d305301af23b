/- The reference's device: Copy (printed by gen_rvj.py). -/
import Derived.Test.YteaimjfpmacgeaaRvF
import Derived.Test.YteaimjfpmacgeaaDvW
namespace Go.Proofs.Yteaimjfpmacgeaa
open Go.RowKit
set_option linter.unusedVariables false

theorem TRow.below {w w' : World} {gl : Nat} {xs : List (List Int)} (h : TRow w gl xs) (hb : Below w.heap.size w w') : TRow w' gl xs := by
  obtain ⟨cur, k, hx⟩ := h
  exact ⟨cur, k.belowS hb, fun i b hi => by obtain ⟨u, hu, ho⟩ := hx i b hi; exact ⟨u, hu, ho.below hb⟩⟩
theorem BRow.below {w w' : World} {gl : Nat} {xs : List Bool} (h : BRow w gl xs) (hb : Below w.heap.size w w') : BRow w' gl xs := by
  obtain ⟨cur, k, hx⟩ := h
  exact ⟨cur, k.belowS hb, hx⟩

/-- A row of values, appended to an empty literal: a new block with the same values. -/
theorem run_append_row (t ty e : TypeId) (z : Value) (by_ : Nat) (hu : Try.prog.underlying t = some (.slice e)) (hinf : (Try.prog.info? e).map (fun i => (i.zero, i.size, i.bytes)) = some (some z, 1, by_)) (hz : z.cells.size = 1) (hby : by_ ≤ 1000)
    (w : World) (g gl n c : Nat) (cur : Array Value) (k : Blk w gl e cur) (h1 : 1 ≤ n) (h2 : n ≤ 16384) (hall : ∀ i, i < n → ∃ u, cur[i]? = some u ∧ u.oneCell' = true) :
    ∃ (g' c' : Nat) (cur' : Array Value × World), (Builtin.append_ #[t, t] ty #[.slice (some ⟨g, 0, none⟩) 0 0, .slice (some ⟨gl, 0, none⟩) n c]).run Try.prog w = .ok (.slice (some ⟨g', 0, none⟩) n c') (cur').2 ∧ w.heap.size ≤ g' ∧ (n ≤ c' ∧ c' ≤ 9223372036854775807) ∧ Blk (cur').2 g' e (cur').1 ∧ (∀ i, i < n → (cur').1[i]? = cur[i]?) ∧ Below w.heap.size w (cur').2 := by
  obtain ⟨i0, hi, hz0, hz1, hz2⟩ := info_parts hinf
  have hsz : n ≤ cur.size := by
    obtain ⟨u, hu, _⟩ := hall (n - 1) (by omega)
    have := (Array.getElem?_eq_some_iff.1 hu).1; omega
  have hlen : (cur.toList.take n).length = n * 1 := by simp; omega
  have hget : ∀ j u, (cur.toList.take n)[j]? = some u → cur[j]? = some u := fun j u hj => by
    rw [List.getElem?_take] at hj
    split at hj
    · rw [Array.getElem?_toList] at hj; exact hj
    · cases hj
  obtain ⟨v', w', r1, r2, r3⟩ := run_append_arg_grows (P := Try.prog) w t ty e i0 z 1 by_ hu hi hz0 hz1 hz2 hz (by decide) ⟨g, 0, none⟩ 0 0 [] rfl (fun j u hj => by simp at hj) ⟨gl, 0, none⟩ n c (cur.toList.take n) hlen
    (fun j u hj => by rw [add_plain0, Nat.zero_add, k.cell]; exact hget j u hj) (by omega) (by unfold maxLen; omega) (by
      have : (0 + n) * by_ ≤ 16384 * 1000 := Nat.mul_le_mul (by omega) hby
      omega)
  rcases r2.2 with ⟨_, e0⟩ | ⟨g', c', cur', rfl, q1, q2, q3, q4, q5, q6⟩
  · omega
  · rw [Nat.zero_add] at q3 q6 r1
    refine ⟨g', c', (cur', w'), r1, q1, ⟨q3, by unfold maxLen at q4; exact q4⟩, q2, fun i hi => ?_, (Below.refl _ _).grown r3 (Nat.le_refl _) (fun k hk => by cases hk)⟩
    have e1 : (cur'.toList.take (n * 1))[i]? = (cur.toList.take n)[i]? := by rw [q6]; rfl
    rw [List.getElem?_take, List.getElem?_take, if_pos (by omega), if_pos hi, Array.getElem?_toList, Array.getElem?_toList] at e1
    exact e1
theorem infoT8 : (Try.prog.info? 29).map (fun i => (i.zero, i.size, i.bytes)) = some (some (.slice none 0 0), 1, 24) := by kernel_rfl
theorem step_append_trow {w : World} {ops : Array Oper} {o : Oper} {a : Act} {K : Act → World → Prop} {Q : Exit → Act → World → Prop} {E : Prop} (hgd : o.guard = none) (s x : Operand)
    (ho : o.op = .call { callee := .builtin .append, args := #[s, x], argTypes := #[51, 51] })
    (g : Nat) (hs : a.eval s = .slice (some ⟨g, 0, none⟩) 0 0) (gl n c : Nat) (hx : a.eval x = .slice (some ⟨gl, 0, none⟩) n c) (xs : List (List Int)) (hn : xs.length = n) (hu : TRow w gl xs) (h1 : 1 ≤ n) (h2 : n ≤ 16384)
    (h : ∀ g' c' w', w.heap.size ≤ g' → (n ≤ c' ∧ c' ≤ 9223372036854775807) → TRow w' g' xs → Below w.heap.size w w' → K (a.put o.dst (.slice (some ⟨g', 0, none⟩) n c')) w') : if Region.wanted o (yielded ops a.tmps) = true then Oper.wp Try.prog o a w K Q else E := by
  obtain ⟨cur, k, hc⟩ := hu
  obtain ⟨g', c', cw, hrun, q1, q2, q3, q4, q5⟩ := run_append_row 51 o.type 29 (.slice none 0 0) 24 Try.underlying51 infoT8 rfl (by decide) w g gl n c cur k h1 h2 (fun i hi => by
    obtain ⟨u, hu, ho⟩ := hc i _ (List.getElem?_eq_getElem (by omega))
    obtain ⟨ua, un, uc, rfl⟩ := ho.sl.val
    exact ⟨_, hu, rfl⟩)
  have hw : Region.wanted o (yielded ops a.tmps) = true := by simp [Region.wanted, hgd]
  rw [if_pos hw]
  unfold Oper.wp
  simp [execOp, ho, resolve, invoke, builtin, hs, hx, hrun, Result.andThen]
  refine h g' c' cw.2 q1 q2 ⟨cw.1, q3, fun i bs hi => ?_⟩ q5
  obtain ⟨u, hu, ho⟩ := hc i bs hi
  exact ⟨u, (q4 i (by have := (List.getElem?_eq_some_iff.1 hi).1; omega)).trans hu, ho.below q5⟩
theorem step_append_brow {w : World} {ops : Array Oper} {o : Oper} {a : Act} {K : Act → World → Prop} {Q : Exit → Act → World → Prop} {E : Prop} (hgd : o.guard = none) (s x : Operand)
    (ho : o.op = .call { callee := .builtin .append, args := #[s, x], argTypes := #[85, 85] })
    (g : Nat) (hs : a.eval s = .slice (some ⟨g, 0, none⟩) 0 0) (gl n c : Nat) (hx : a.eval x = .slice (some ⟨gl, 0, none⟩) n c) (xs : List Bool) (hn : xs.length = n) (hu : BRow w gl xs) (h1 : 1 ≤ n) (h2 : n ≤ 16384)
    (h : ∀ g' c' w', w.heap.size ≤ g' → (n ≤ c' ∧ c' ≤ 9223372036854775807) → BRow w' g' xs → Below w.heap.size w w' → K (a.put o.dst (.slice (some ⟨g', 0, none⟩) n c')) w') : if Region.wanted o (yielded ops a.tmps) = true then Oper.wp Try.prog o a w K Q else E := by
  obtain ⟨cur, k, hc⟩ := hu
  obtain ⟨g', c', cw, hrun, q1, q2, q3, q4, q5⟩ := run_append_row 85 o.type 4 (.bool false) 1 Try.underlying85 infoBoolR rfl (by decide) w g gl n c cur k h1 h2 (fun i hi => ⟨_, hc i _ (List.getElem?_eq_getElem (by omega)), rfl⟩)
  have hw : Region.wanted o (yielded ops a.tmps) = true := by simp [Region.wanted, hgd]
  rw [if_pos hw]
  unfold Oper.wp
  simp [execOp, ho, resolve, invoke, builtin, hs, hx, hrun, Result.andThen]
  exact h g' c' cw.2 q1 q2 ⟨cw.1, q3, fun i bs hi => (q4 i (by have := (List.getElem?_eq_some_iff.1 hi).1; omega)).trans (hc i bs hi)⟩ q5

/-- The call's slots in the region. -/
abbrev cpAct (y s : Nat) (x2 x4 x5 x6 : Value) (u : Nat → Value) : Act := { tmps := #[.pointer (some ⟨y, 0, none⟩), undef, x2, .pointer (some ⟨s, 0, none⟩), x4, x5, x6, u 7, u 8, u 9, u 10, u 11, u 12, u 13, u 14, u 15, u 16, u 17, u 18, u 19, u 20, u 21, u 22, u 23, u 24, u 25, u 26, u 27], defers := [] }
structure CpT (y s : Nat) (vL vK vW : Value) (D : Nat → Bool) (u : Nat → Value) : Prop where
  s1 : D 1 = true → u 8 = .pointer (some ⟨y, 0, none⟩)
  s2 : D 2 = true → u 9 = .pointer (some ⟨y, 0, none⟩)
  s3 : D 3 = true → u 10 = .pointer (some ⟨y, 0, none⟩)
  s4 : D 4 = true → u 11 = vL
  s7 : D 7 = true → u 14 = .pointer (some ⟨y, 0, none⟩)
  s8 : D 8 = true → u 15 = .pointer (some ⟨y, 0, none⟩)
  s9 : D 9 = true → u 16 = .pointer (some ⟨y, 1, none⟩)
  s10 : D 10 = true → u 17 = vK
  s13 : D 13 = true → u 20 = .pointer (some ⟨y, 0, none⟩)
  s14 : D 14 = true → u 21 = .pointer (some ⟨y, 0, none⟩)
  s15 : D 15 = true → u 22 = .pointer (some ⟨y, 2, none⟩)
  s16 : D 16 = true → u 23 = vW
  s18 : D 18 = true → u 25 = .pointer (some ⟨s, 0, none⟩)
  s20 : D 20 = true → u 26 = .pointer (some ⟨s, 1, none⟩)
  s22 : D 22 = true → u 27 = .pointer (some ⟨s, 2, none⟩)
structure CpW (s n : Nat) (vL vK vW : Value) (d : DSt) (W : World) (D : Nat → Bool) (u : Nat → Value) (w : World) : Prop where
  blk : Blk w s 87 #[cond (D 19) (u 12) vL, cond (D 21) (u 18) vK, cond (D 23) (u 24) vW, .int .i64 d.rB, .bool d.dead, .int .i64 d.changes]
  bel : Below W.heap.size W w
  a0 : D 0 = true → ∃ g, u 7 = .slice (some ⟨g, 0, none⟩) 0 0
  a6 : D 6 = true → ∃ g, u 13 = .slice (some ⟨g, 0, none⟩) 0 0
  a12 : D 12 = true → ∃ g, u 19 = .slice (some ⟨g, 0, none⟩) 0 0
  a5 : D 5 = true → ∃ g c, u 12 = .slice (some ⟨g, 0, none⟩) n c ∧ W.heap.size ≤ g ∧ (n ≤ c ∧ c ≤ 9223372036854775807) ∧ TRow w g (d.l.map Sec.now)
  a11 : D 11 = true → ∃ g c, u 18 = .slice (some ⟨g, 0, none⟩) n c ∧ W.heap.size ≤ g ∧ (n ≤ c ∧ c ≤ 9223372036854775807) ∧ TRow w g (d.l.map Sec.kept)
  a17 : D 17 = true → ∃ g c, u 24 = .slice (some ⟨g, 0, none⟩) n c ∧ W.heap.size ≤ g ∧ (n ≤ c ∧ c ≤ 9223372036854775807) ∧ BRow w g (d.l.map Sec.waits)
  sep : D 5 = true → D 11 = true → ∀ g, (u 12).ownBlock = some g → (u 18).ownBlock ≠ some g
theorem CpW.below {s n : Nat} {vL vK vW : Value} {d : DSt} {W : World} {D : Nat → Bool} {u : Nat → Value} {w w' : World} (h : CpW s n vL vK vW d W D u w) (hb : Below w.heap.size w w') : CpW s n vL vK vW d W D u w' :=
  ⟨h.blk.belowS hb, below_trans2 h.bel hb, h.a0, h.a6, h.a12, fun q => (by obtain ⟨g, c, e, h1, h2, r⟩ := h.a5 q; exact ⟨g, c, e, h1, h2, r.below hb⟩), fun q => (by obtain ⟨g, c, e, h1, h2, r⟩ := h.a11 q; exact ⟨g, c, e, h1, h2, r.below hb⟩), fun q => (by obtain ⟨g, c, e, h1, h2, r⟩ := h.a17 q; exact ⟨g, c, e, h1, h2, r.below hb⟩), h.sep⟩
theorem CpW.stored {s n : Nat} {vL vK vW : Value} {d : DSt} {W : World} {D : Nat → Bool} {u : Nat → Value} {w w' : World} (h : CpW s n vL vK vW d W D u w) (hs : W.heap.size ≤ s) (ho : Only [s] w w') (D' : Nat → Bool) (hD : ∀ k, k ∈ [0, 5, 6, 11, 12, 17] → D' k = D k)
    (hk : Blk w' s 87 #[cond (D' 19) (u 12) vL, cond (D' 21) (u 18) vK, cond (D' 23) (u 24) vW, .int .i64 d.rB, .bool d.dead, .int .i64 d.changes]) : CpW s n vL vK vW d W D' u w' := by
  have f8 : ∀ k ∈ [s], ∀ cur, ¬ Blk w k 5 cur := fun k hk cur e => by
    obtain rfl : k = s := by simpa using hk
    exact Blk.ne_ e h.blk (by decide) rfl
  have hne : ∀ g xs, TRow w g xs → g ∉ [s] := fun g xs r hm => by
    obtain ⟨cur, k⟩ := r.typ
    exact Blk.ne_ k h.blk (by decide) (by simpa using hm)
  have hnb : ∀ g xs, BRow w g xs → g ∉ [s] := fun g xs r hm => by
    obtain ⟨cur, k⟩ := r.typ
    exact Blk.ne_ k h.blk (by decide) (by simpa using hm)
  exact ⟨hk, Only.belowOf h.bel ho h.bel.size (fun k hk => by obtain rfl : k = s := (by simpa using hk); exact hs), fun q => h.a0 ((hD 0 (by simp)).symm.trans q), fun q => h.a6 ((hD 6 (by simp)).symm.trans q), fun q => h.a12 ((hD 12 (by simp)).symm.trans q),
    fun q => (by obtain ⟨g, c, e, h1, h2, r⟩ := h.a5 ((hD 5 (by simp)).symm.trans q); exact ⟨g, c, e, h1, h2, r.only ho f8 (hne _ _ r)⟩), fun q => (by obtain ⟨g, c, e, h1, h2, r⟩ := h.a11 ((hD 11 (by simp)).symm.trans q); exact ⟨g, c, e, h1, h2, r.only ho f8 (hne _ _ r)⟩),
    fun q => (by obtain ⟨g, c, e, h1, h2, r⟩ := h.a17 ((hD 17 (by simp)).symm.trans q); exact ⟨g, c, e, h1, h2, r.only ho (hnb _ _ r)⟩), fun q1 q2 => h.sep ((hD 5 (by simp)).symm.trans q1) ((hD 11 (by simp)).symm.trans q2)⟩
def cpInv (y s n : Nat) (vL vK vW : Value) (d : DSt) (W : World) (x2 x4 x5 x6 : Value) (D : Nat → Bool) (a : Act) (w : World) : Prop :=
  ∃ u, a = cpAct y s x2 x4 x5 x6 u ∧ CpT y s vL vK vW D u ∧ CpW s n vL vK vW d W D u w

set_option maxRecDepth 100000 in
set_option maxHeartbeats 4000000 in
theorem rcopy_any (w0 : World) (y gl gk gw : Nat) (d : DSt) (h : RDev w0 y gl gk gw d) :
    Calls Try.prog 37 #[.pointer (some ⟨y, 0, none⟩)] w0 fun e w' => ∃ y' gl' gk' gw', e = .returned (.pointer (some ⟨y', 0, none⟩)) ∧ (∀ k ∈ [y', gl', gk', gw'], w0.heap.size ≤ k) ∧ RDev w' y' gl' gk' gw' d ∧ Below w0.heap.size w0 w' := by
  have HD := Lib.hid h
  obtain ⟨cl, ck, cw, q1, q2, q3, k⟩ := h.blk
  obtain ⟨h1, h2⟩ := h.pos
  have HNN := Lib.hid h
  obtain ⟨n, hn⟩ : ∃ n, d.l.length = n := ⟨_, rfl⟩
  rw [hn] at k q1 q2 q3 h1 h2
  have HN := Lib.hid hn
  have HQ := Lib.hid (And.intro q1 (And.intro q2 q3))
  have c0 : w0.cell? ⟨y, 0, none⟩ = some (.slice (some ⟨gl, 0, none⟩) n cl) := k.cell 0
  have c1 : w0.cell? ⟨y, 1, none⟩ = some (.slice (some ⟨gk, 0, none⟩) n ck) := k.cell 1
  have c2 : w0.cell? ⟨y, 2, none⟩ = some (.slice (some ⟨gw, 0, none⟩) n cw) := k.cell 2
  have c3 : w0.cell? ⟨y, 3, none⟩ = some (.int .i64 d.rB) := k.cell 3
  have c4 : w0.cell? ⟨y, 4, none⟩ = some (.bool d.dead) := k.cell 4
  have c5 : w0.cell? ⟨y, 5, none⟩ = some (.int .i64 d.changes) := k.cell 5
  have HYL := Lib.hid k.lt
  have HC := Lib.hid (And.intro c0 (And.intro c1 c2))
  have hbA : Below w0.heap.size w0 (w0.alloc (.cells (rdCells gl gk gw n cl ck cw d) 87)) := (Below.refl _ _).alloc (Nat.le_refl _) _
  have kA := Blk.new w0 87 (rdCells gl gk gw n cl ck cw d)
  have HBA := Lib.hid hbA
  have HKA := Lib.hid kA
  clear h hn q1 q2 q3 k hbA kA
  go_enter Try.func37, Try.ntmps37
  go_upto_region 2 with (fail)
  obtain ⟨s, hs⟩ : ∃ s, s = w0.heap.size := ⟨_, rfl⟩
  have HSG := Lib.hid (show w0.heap.size ≤ s by omega)
  rw [← hs] at HKA
  rw [← hs]
  clear hs
  generalize (w0.alloc (.cells (rdCells gl gk gw n cl ck cw d) 87)) = wA at *
  refine wp_region_inv2 (cpInv y s n (.slice (some ⟨gl, 0, none⟩) n cl) (.slice (some ⟨gk, 0, none⟩) n ck) (.slice (some ⟨gw, 0, none⟩) n cw) d w0 (.pointer none) (.pointer (some ⟨y, 0, none⟩)) (.pointer (some ⟨y, 0, none⟩)) (.agg (rdCells gl gk gw n cl ck cw d))) (by kernel_rfl) (by kernel_rfl) ?start ?step ?fin
  case start =>
    refine ⟨fun k => undef, rfl, ?_, ?_⟩
    · exact ⟨(fun q => by cases q), (fun q => by cases q), (fun q => by cases q), (fun q => by cases q), (fun q => by cases q), (fun q => by cases q), (fun q => by cases q), (fun q => by cases q), (fun q => by cases q), (fun q => by cases q), (fun q => by cases q), (fun q => by cases q), (fun q => by cases q), (fun q => by cases q), (fun q => by cases q)⟩
    · exact ⟨HKA.out, HBA.out.drew, (fun q => by cases q), (fun q => by cases q), (fun q => by cases q), (fun q => by cases q), (fun q => by cases q), (fun q => by cases q), (fun q => by cases q)⟩
  case step =>
    intro D a w i hi hI hD hcl hn
    obtain ⟨u, rfl, hT, hW⟩ := hI
    have hi' : i < 24 := hi
    clear hi
    rcases (show i = 0 ∨ i = 1 ∨ i = 2 ∨ i = 3 ∨ i = 4 ∨ i = 5 ∨ i = 6 ∨ i = 7 ∨ i = 8 ∨ i = 9 ∨ i = 10 ∨ i = 11 ∨ i = 12 ∨ i = 13 ∨ i = 14 ∨ i = 15 ∨ i = 16 ∨ i = 17 ∨ i = 18 ∨ i = 19 ∨ i = 20 ∨ i = 21 ∨ i = 22 ∨ i = 23 from by omega) with rfl | rfl | rfl | rfl | rfl | rfl | rfl | rfl | rfl | rfl | rfl | rfl | rfl | rfl | rfl | rfl | rfl | rfl | rfl | rfl | rfl | rfl | rfl | rfl
    · refine wpOp_plain rfl rfl ?_
      go_simp
      have hb2 : Below w.heap.size w (w.alloc (.cells #[] 29)) := (Below.refl _ _).alloc (Nat.le_refl _) _
      have hW := hW.below hb2
      exact ⟨upd u 7 (.slice (some ⟨w.heap.size, 0, none⟩) 0 0), rfl, ⟨fun h => hT.s1 h, fun h => hT.s2 h, fun h => hT.s3 h, fun h => hT.s4 h, fun h => hT.s7 h, fun h => hT.s8 h, fun h => hT.s9 h, fun h => hT.s10 h, fun h => hT.s13 h, fun h => hT.s14 h, fun h => hT.s15 h, fun h => hT.s16 h, fun h => hT.s18 h, fun h => hT.s20 h, fun h => hT.s22 h⟩, ⟨hW.blk, hW.bel, (fun _ => ⟨_, rfl⟩), hW.a6, hW.a12, hW.a5, hW.a11, hW.a17, hW.sep⟩⟩
    · refine wpOp_plain rfl rfl ?_
      go_simp
      exact ⟨upd u 8 (.pointer (some ⟨y, 0, none⟩)), rfl, ⟨fun _ => rfl, fun h => hT.s2 h, fun h => hT.s3 h, fun h => hT.s4 h, fun h => hT.s7 h, fun h => hT.s8 h, fun h => hT.s9 h, fun h => hT.s10 h, fun h => hT.s13 h, fun h => hT.s14 h, fun h => hT.s15 h, fun h => hT.s16 h, fun h => hT.s18 h, fun h => hT.s20 h, fun h => hT.s22 h⟩, ⟨hW.blk, hW.bel, hW.a0, hW.a6, hW.a12, hW.a5, hW.a11, hW.a17, hW.sep⟩⟩
    · have d1 : D 1 = true := hn 1 (needs_b (by kernel_rfl))
      have e8 := hT.s1 d1
      refine wpOp_plain rfl rfl ?_
      go_simp
      exact ⟨upd u 9 (.pointer (some ⟨y, 0, none⟩)), by first | rfl | simp [upd, e8], ⟨fun h => hT.s1 h, fun _ => rfl, fun h => hT.s3 h, fun h => hT.s4 h, fun h => hT.s7 h, fun h => hT.s8 h, fun h => hT.s9 h, fun h => hT.s10 h, fun h => hT.s13 h, fun h => hT.s14 h, fun h => hT.s15 h, fun h => hT.s16 h, fun h => hT.s18 h, fun h => hT.s20 h, fun h => hT.s22 h⟩, ⟨hW.blk, hW.bel, hW.a0, hW.a6, hW.a12, hW.a5, hW.a11, hW.a17, hW.sep⟩⟩
    · have d2 : D 2 = true := hn 2 (needs_b (by kernel_rfl))
      have e9 := hT.s2 d2
      refine wpOp_plain rfl rfl ?_
      go_simp
      exact ⟨upd u 10 (.pointer (some ⟨y, 0, none⟩)), by first | rfl | simp [upd, e9], ⟨fun h => hT.s1 h, fun h => hT.s2 h, fun _ => rfl, fun h => hT.s4 h, fun h => hT.s7 h, fun h => hT.s8 h, fun h => hT.s9 h, fun h => hT.s10 h, fun h => hT.s13 h, fun h => hT.s14 h, fun h => hT.s15 h, fun h => hT.s16 h, fun h => hT.s18 h, fun h => hT.s20 h, fun h => hT.s22 h⟩, ⟨hW.blk, hW.bel, hW.a0, hW.a6, hW.a12, hW.a5, hW.a11, hW.a17, hW.sep⟩⟩
    · have d3 : D 3 = true := hn 3 (needs_b (by kernel_rfl))
      have e10 := hT.s3 d3
      have c0 : w.cell? ⟨y, 0, none⟩ = some (.slice (some ⟨gl, 0, none⟩) n cl) := (hW.bel.cell (p := ⟨y, 0, none⟩) HYL.out).trans (HC.out.1)
      refine wpOp_plain rfl rfl ?_
      go_simp
      exact ⟨upd u 11 (.slice (some ⟨gl, 0, none⟩) n cl), by first | rfl | simp [upd, e10], ⟨fun h => hT.s1 h, fun h => hT.s2 h, fun h => hT.s3 h, fun _ => rfl, fun h => hT.s7 h, fun h => hT.s8 h, fun h => hT.s9 h, fun h => hT.s10 h, fun h => hT.s13 h, fun h => hT.s14 h, fun h => hT.s15 h, fun h => hT.s16 h, fun h => hT.s18 h, fun h => hT.s20 h, fun h => hT.s22 h⟩, ⟨hW.blk, hW.bel, hW.a0, hW.a6, hW.a12, hW.a5, hW.a11, hW.a17, hW.sep⟩⟩
    · have n19 : D 19 = false := by
        cases q : D 19 with
        | false => rfl
        | true => have := hcl 19 5 q (needs_b (by kernel_rfl)); rw [hD] at this; cases this
      have d0 : D 0 = true := hn 0 (needs_b (by kernel_rfl))
      have d4 : D 4 = true := hn 4 (needs_b (by kernel_rfl))
      obtain ⟨g, e7⟩ := hW.a0 d0
      have e11 := hT.s4 d4
      have hsz := hW.bel.size
      have hr := (HD.out.rl).below (w' := w) hW.bel
      refine wpOp_step rfl rfl (step_append_trow rfl (.tmp 7) (.tmp 11) rfl g e7 gl n cl e11 (d.l.map Sec.now) (by simp; exact HN.out) hr h1 h2 ?_)
      intro g2 c2 w2 hge hc2 hr2 hb2
      have hW0 := hW
      have hW := hW.below hb2
      exact ⟨upd u 12 (.slice (some ⟨g2, 0, none⟩) n c2), rfl, ⟨fun h => hT.s1 h, fun h => hT.s2 h, fun h => hT.s3 h, fun h => hT.s4 h, fun h => hT.s7 h, fun h => hT.s8 h, fun h => hT.s9 h, fun h => hT.s10 h, fun h => hT.s13 h, fun h => hT.s14 h, fun h => hT.s15 h, fun h => hT.s16 h, fun h => hT.s18 h, fun h => hT.s20 h, fun h => hT.s22 h⟩, ⟨(by have h := hW.blk; rw [n19] at h; show Blk _ _ _ #[cond (D 19) (.slice (some ⟨g2, 0, none⟩) n c2) (.slice (some ⟨gl, 0, none⟩) n cl), cond (D 21) (u 18) (.slice (some ⟨gk, 0, none⟩) n ck), cond (D 23) (u 24) (.slice (some ⟨gw, 0, none⟩) n cw), .int .i64 d.rB, .bool d.dead, .int .i64 d.changes]; rw [n19]; exact h), hW.bel, hW.a0, hW.a6, hW.a12, (fun _ => ⟨g2, c2, rfl, Nat.le_trans hsz hge, hc2, hr2⟩), hW.a11, hW.a17, (fun _ q g e1 e2 => (by
            obtain ⟨g3, c3, e3, _, _, r3⟩ := hW0.a11 q
            obtain ⟨cur, k3⟩ := r3.typ
            have := k3.lt
            have e2 : (u 18).ownBlock = some g := e2
            rw [e3] at e2
            have e1 : some g2 = some g := e1
            have e2 : some g3 = some g := e2
            cases e1; cases e2; omega))⟩⟩
    · refine wpOp_plain rfl rfl ?_
      go_simp
      have hb2 : Below w.heap.size w (w.alloc (.cells #[] 29)) := (Below.refl _ _).alloc (Nat.le_refl _) _
      have hW := hW.below hb2
      exact ⟨upd u 13 (.slice (some ⟨w.heap.size, 0, none⟩) 0 0), rfl, ⟨fun h => hT.s1 h, fun h => hT.s2 h, fun h => hT.s3 h, fun h => hT.s4 h, fun h => hT.s7 h, fun h => hT.s8 h, fun h => hT.s9 h, fun h => hT.s10 h, fun h => hT.s13 h, fun h => hT.s14 h, fun h => hT.s15 h, fun h => hT.s16 h, fun h => hT.s18 h, fun h => hT.s20 h, fun h => hT.s22 h⟩, ⟨hW.blk, hW.bel, hW.a0, (fun _ => ⟨_, rfl⟩), hW.a12, hW.a5, hW.a11, hW.a17, hW.sep⟩⟩
    · refine wpOp_plain rfl rfl ?_
      go_simp
      exact ⟨upd u 14 (.pointer (some ⟨y, 0, none⟩)), rfl, ⟨fun h => hT.s1 h, fun h => hT.s2 h, fun h => hT.s3 h, fun h => hT.s4 h, fun _ => rfl, fun h => hT.s8 h, fun h => hT.s9 h, fun h => hT.s10 h, fun h => hT.s13 h, fun h => hT.s14 h, fun h => hT.s15 h, fun h => hT.s16 h, fun h => hT.s18 h, fun h => hT.s20 h, fun h => hT.s22 h⟩, ⟨hW.blk, hW.bel, hW.a0, hW.a6, hW.a12, hW.a5, hW.a11, hW.a17, hW.sep⟩⟩
    · have d7 : D 7 = true := hn 7 (needs_b (by kernel_rfl))
      have e14 := hT.s7 d7
      refine wpOp_plain rfl rfl ?_
      go_simp
      exact ⟨upd u 15 (.pointer (some ⟨y, 0, none⟩)), by first | rfl | simp [upd, e14], ⟨fun h => hT.s1 h, fun h => hT.s2 h, fun h => hT.s3 h, fun h => hT.s4 h, fun h => hT.s7 h, fun _ => rfl, fun h => hT.s9 h, fun h => hT.s10 h, fun h => hT.s13 h, fun h => hT.s14 h, fun h => hT.s15 h, fun h => hT.s16 h, fun h => hT.s18 h, fun h => hT.s20 h, fun h => hT.s22 h⟩, ⟨hW.blk, hW.bel, hW.a0, hW.a6, hW.a12, hW.a5, hW.a11, hW.a17, hW.sep⟩⟩
    · have d8 : D 8 = true := hn 8 (needs_b (by kernel_rfl))
      have e15 := hT.s8 d8
      refine wpOp_plain rfl rfl ?_
      go_simp
      exact ⟨upd u 16 (.pointer (some ⟨y, 1, none⟩)), by first | rfl | simp [upd, e15], ⟨fun h => hT.s1 h, fun h => hT.s2 h, fun h => hT.s3 h, fun h => hT.s4 h, fun h => hT.s7 h, fun h => hT.s8 h, fun _ => rfl, fun h => hT.s10 h, fun h => hT.s13 h, fun h => hT.s14 h, fun h => hT.s15 h, fun h => hT.s16 h, fun h => hT.s18 h, fun h => hT.s20 h, fun h => hT.s22 h⟩, ⟨hW.blk, hW.bel, hW.a0, hW.a6, hW.a12, hW.a5, hW.a11, hW.a17, hW.sep⟩⟩
    · have d9 : D 9 = true := hn 9 (needs_b (by kernel_rfl))
      have e16 := hT.s9 d9
      have c0 : w.cell? ⟨y, 1, none⟩ = some (.slice (some ⟨gk, 0, none⟩) n ck) := (hW.bel.cell (p := ⟨y, 1, none⟩) HYL.out).trans (HC.out.2.1)
      refine wpOp_plain rfl rfl ?_
      go_simp
      exact ⟨upd u 17 (.slice (some ⟨gk, 0, none⟩) n ck), by first | rfl | simp [upd, e16], ⟨fun h => hT.s1 h, fun h => hT.s2 h, fun h => hT.s3 h, fun h => hT.s4 h, fun h => hT.s7 h, fun h => hT.s8 h, fun h => hT.s9 h, fun _ => rfl, fun h => hT.s13 h, fun h => hT.s14 h, fun h => hT.s15 h, fun h => hT.s16 h, fun h => hT.s18 h, fun h => hT.s20 h, fun h => hT.s22 h⟩, ⟨hW.blk, hW.bel, hW.a0, hW.a6, hW.a12, hW.a5, hW.a11, hW.a17, hW.sep⟩⟩
    · have n21 : D 21 = false := by
        cases q : D 21 with
        | false => rfl
        | true => have := hcl 21 11 q (needs_b (by kernel_rfl)); rw [hD] at this; cases this
      have d6 : D 6 = true := hn 6 (needs_b (by kernel_rfl))
      have d10 : D 10 = true := hn 10 (needs_b (by kernel_rfl))
      obtain ⟨g, e13⟩ := hW.a6 d6
      have e17 := hT.s10 d10
      have hsz := hW.bel.size
      have hr := (HD.out.rk).below (w' := w) hW.bel
      refine wpOp_step rfl rfl (step_append_trow rfl (.tmp 13) (.tmp 17) rfl g e13 gk n ck e17 (d.l.map Sec.kept) (by simp; exact HN.out) hr h1 h2 ?_)
      intro g2 c2 w2 hge hc2 hr2 hb2
      have hW0 := hW
      have hW := hW.below hb2
      exact ⟨upd u 18 (.slice (some ⟨g2, 0, none⟩) n c2), rfl, ⟨fun h => hT.s1 h, fun h => hT.s2 h, fun h => hT.s3 h, fun h => hT.s4 h, fun h => hT.s7 h, fun h => hT.s8 h, fun h => hT.s9 h, fun h => hT.s10 h, fun h => hT.s13 h, fun h => hT.s14 h, fun h => hT.s15 h, fun h => hT.s16 h, fun h => hT.s18 h, fun h => hT.s20 h, fun h => hT.s22 h⟩, ⟨(by have h := hW.blk; rw [n21] at h; show Blk _ _ _ #[cond (D 19) (u 12) (.slice (some ⟨gl, 0, none⟩) n cl), cond (D 21) (.slice (some ⟨g2, 0, none⟩) n c2) (.slice (some ⟨gk, 0, none⟩) n ck), cond (D 23) (u 24) (.slice (some ⟨gw, 0, none⟩) n cw), .int .i64 d.rB, .bool d.dead, .int .i64 d.changes]; rw [n21]; exact h), hW.bel, hW.a0, hW.a6, hW.a12, hW.a5, (fun _ => ⟨g2, c2, rfl, Nat.le_trans hsz hge, hc2, hr2⟩), hW.a17, (fun q _ g e1 e2 => (by
            obtain ⟨g3, c3, e3, _, _, r3⟩ := hW0.a5 q
            obtain ⟨cur, k3⟩ := r3.typ
            have := k3.lt
            have e1 : (u 12).ownBlock = some g := e1
            rw [e3] at e1
            have e1 : some g3 = some g := e1
            have e2 : some g2 = some g := e2
            cases e1; cases e2; omega))⟩⟩
    · refine wpOp_plain rfl rfl ?_
      go_simp
      have hb2 : Below w.heap.size w (w.alloc (.cells #[] 4)) := (Below.refl _ _).alloc (Nat.le_refl _) _
      have hW := hW.below hb2
      exact ⟨upd u 19 (.slice (some ⟨w.heap.size, 0, none⟩) 0 0), rfl, ⟨fun h => hT.s1 h, fun h => hT.s2 h, fun h => hT.s3 h, fun h => hT.s4 h, fun h => hT.s7 h, fun h => hT.s8 h, fun h => hT.s9 h, fun h => hT.s10 h, fun h => hT.s13 h, fun h => hT.s14 h, fun h => hT.s15 h, fun h => hT.s16 h, fun h => hT.s18 h, fun h => hT.s20 h, fun h => hT.s22 h⟩, ⟨hW.blk, hW.bel, hW.a0, hW.a6, (fun _ => ⟨_, rfl⟩), hW.a5, hW.a11, hW.a17, hW.sep⟩⟩
    · refine wpOp_plain rfl rfl ?_
      go_simp
      exact ⟨upd u 20 (.pointer (some ⟨y, 0, none⟩)), rfl, ⟨fun h => hT.s1 h, fun h => hT.s2 h, fun h => hT.s3 h, fun h => hT.s4 h, fun h => hT.s7 h, fun h => hT.s8 h, fun h => hT.s9 h, fun h => hT.s10 h, fun _ => rfl, fun h => hT.s14 h, fun h => hT.s15 h, fun h => hT.s16 h, fun h => hT.s18 h, fun h => hT.s20 h, fun h => hT.s22 h⟩, ⟨hW.blk, hW.bel, hW.a0, hW.a6, hW.a12, hW.a5, hW.a11, hW.a17, hW.sep⟩⟩
    · have d13 : D 13 = true := hn 13 (needs_b (by kernel_rfl))
      have e20 := hT.s13 d13
      refine wpOp_plain rfl rfl ?_
      go_simp
      exact ⟨upd u 21 (.pointer (some ⟨y, 0, none⟩)), by first | rfl | simp [upd, e20], ⟨fun h => hT.s1 h, fun h => hT.s2 h, fun h => hT.s3 h, fun h => hT.s4 h, fun h => hT.s7 h, fun h => hT.s8 h, fun h => hT.s9 h, fun h => hT.s10 h, fun h => hT.s13 h, fun _ => rfl, fun h => hT.s15 h, fun h => hT.s16 h, fun h => hT.s18 h, fun h => hT.s20 h, fun h => hT.s22 h⟩, ⟨hW.blk, hW.bel, hW.a0, hW.a6, hW.a12, hW.a5, hW.a11, hW.a17, hW.sep⟩⟩
    · have d14 : D 14 = true := hn 14 (needs_b (by kernel_rfl))
      have e21 := hT.s14 d14
      refine wpOp_plain rfl rfl ?_
      go_simp
      exact ⟨upd u 22 (.pointer (some ⟨y, 2, none⟩)), by first | rfl | simp [upd, e21], ⟨fun h => hT.s1 h, fun h => hT.s2 h, fun h => hT.s3 h, fun h => hT.s4 h, fun h => hT.s7 h, fun h => hT.s8 h, fun h => hT.s9 h, fun h => hT.s10 h, fun h => hT.s13 h, fun h => hT.s14 h, fun _ => rfl, fun h => hT.s16 h, fun h => hT.s18 h, fun h => hT.s20 h, fun h => hT.s22 h⟩, ⟨hW.blk, hW.bel, hW.a0, hW.a6, hW.a12, hW.a5, hW.a11, hW.a17, hW.sep⟩⟩
    · have d15 : D 15 = true := hn 15 (needs_b (by kernel_rfl))
      have e22 := hT.s15 d15
      have c0 : w.cell? ⟨y, 2, none⟩ = some (.slice (some ⟨gw, 0, none⟩) n cw) := (hW.bel.cell (p := ⟨y, 2, none⟩) HYL.out).trans (HC.out.2.2)
      refine wpOp_plain rfl rfl ?_
      go_simp
      exact ⟨upd u 23 (.slice (some ⟨gw, 0, none⟩) n cw), by first | rfl | simp [upd, e22], ⟨fun h => hT.s1 h, fun h => hT.s2 h, fun h => hT.s3 h, fun h => hT.s4 h, fun h => hT.s7 h, fun h => hT.s8 h, fun h => hT.s9 h, fun h => hT.s10 h, fun h => hT.s13 h, fun h => hT.s14 h, fun h => hT.s15 h, fun _ => rfl, fun h => hT.s18 h, fun h => hT.s20 h, fun h => hT.s22 h⟩, ⟨hW.blk, hW.bel, hW.a0, hW.a6, hW.a12, hW.a5, hW.a11, hW.a17, hW.sep⟩⟩
    · have n23 : D 23 = false := by
        cases q : D 23 with
        | false => rfl
        | true => have := hcl 23 17 q (needs_b (by kernel_rfl)); rw [hD] at this; cases this
      have d12 : D 12 = true := hn 12 (needs_b (by kernel_rfl))
      have d16 : D 16 = true := hn 16 (needs_b (by kernel_rfl))
      obtain ⟨g, e19⟩ := hW.a12 d12
      have e23 := hT.s16 d16
      have hsz := hW.bel.size
      have hr := (HD.out.rw).below (w' := w) hW.bel
      refine wpOp_step rfl rfl (step_append_brow rfl (.tmp 19) (.tmp 23) rfl g e19 gw n cw e23 (d.l.map Sec.waits) (by simp; exact HN.out) hr h1 h2 ?_)
      intro g2 c2 w2 hge hc2 hr2 hb2
      have hW0 := hW
      have hW := hW.below hb2
      exact ⟨upd u 24 (.slice (some ⟨g2, 0, none⟩) n c2), rfl, ⟨fun h => hT.s1 h, fun h => hT.s2 h, fun h => hT.s3 h, fun h => hT.s4 h, fun h => hT.s7 h, fun h => hT.s8 h, fun h => hT.s9 h, fun h => hT.s10 h, fun h => hT.s13 h, fun h => hT.s14 h, fun h => hT.s15 h, fun h => hT.s16 h, fun h => hT.s18 h, fun h => hT.s20 h, fun h => hT.s22 h⟩, ⟨(by have h := hW.blk; rw [n23] at h; show Blk _ _ _ #[cond (D 19) (u 12) (.slice (some ⟨gl, 0, none⟩) n cl), cond (D 21) (u 18) (.slice (some ⟨gk, 0, none⟩) n ck), cond (D 23) (.slice (some ⟨g2, 0, none⟩) n c2) (.slice (some ⟨gw, 0, none⟩) n cw), .int .i64 d.rB, .bool d.dead, .int .i64 d.changes]; rw [n23]; exact h), hW.bel, hW.a0, hW.a6, hW.a12, hW.a5, hW.a11, (fun _ => ⟨g2, c2, rfl, Nat.le_trans hsz hge, hc2, hr2⟩), hW.sep⟩⟩
    · refine wpOp_plain rfl rfl ?_
      go_simp
      exact ⟨upd u 25 (.pointer (some ⟨s, 0, none⟩)), rfl, ⟨fun h => hT.s1 h, fun h => hT.s2 h, fun h => hT.s3 h, fun h => hT.s4 h, fun h => hT.s7 h, fun h => hT.s8 h, fun h => hT.s9 h, fun h => hT.s10 h, fun h => hT.s13 h, fun h => hT.s14 h, fun h => hT.s15 h, fun h => hT.s16 h, fun _ => rfl, fun h => hT.s20 h, fun h => hT.s22 h⟩, ⟨hW.blk, hW.bel, hW.a0, hW.a6, hW.a12, hW.a5, hW.a11, hW.a17, hW.sep⟩⟩
    · have d18 : D 18 = true := hn 18 (needs_b (by kernel_rfl))
      have d5 : D 5 = true := hn 5 (needs_b (by kernel_rfl))
      have e25 := hT.s18 d18
      obtain ⟨g3, c3, e12, _, _, _⟩ := hW.a5 d5
      have c0 : w.cell? ⟨s, 0, none⟩ = some (.slice (some ⟨gl, 0, none⟩) n cl) := (hW.blk.cell 0).trans (by simp [hD])
      have f0 := hW.blk.frozen 0
      have ho : Only [s] w (w.setCell ⟨s, 0, none⟩ (.slice (some ⟨g3, 0, none⟩) n c3)) := Only.setCell _ _ (by simp) _
      have hbk := hW.blk.set_ 0 (.slice (some ⟨g3, 0, none⟩) n c3)
      refine wpOp_plain rfl rfl ?_
      go_simp
      exact ⟨u, by first | rfl | simp [e25, e12], ⟨fun h => hT.s1 h, fun h => hT.s2 h, fun h => hT.s3 h, fun h => hT.s4 h, fun h => hT.s7 h, fun h => hT.s8 h, fun h => hT.s9 h, fun h => hT.s10 h, fun h => hT.s13 h, fun h => hT.s14 h, fun h => hT.s15 h, fun h => hT.s16 h, fun h => hT.s18 h, fun h => hT.s20 h, fun h => hT.s22 h⟩, hW.stored HSG.out ho (D1 D 19) (by simp [D1]) (by show Blk _ _ _ #[u 12, cond (D 21) (u 18) (.slice (some ⟨gk, 0, none⟩) n ck), cond (D 23) (u 24) (.slice (some ⟨gw, 0, none⟩) n cw), .int .i64 d.rB, .bool d.dead, .int .i64 d.changes]; rw [e12]; exact hbk)⟩
    · refine wpOp_plain rfl rfl ?_
      go_simp
      exact ⟨upd u 26 (.pointer (some ⟨s, 1, none⟩)), rfl, ⟨fun h => hT.s1 h, fun h => hT.s2 h, fun h => hT.s3 h, fun h => hT.s4 h, fun h => hT.s7 h, fun h => hT.s8 h, fun h => hT.s9 h, fun h => hT.s10 h, fun h => hT.s13 h, fun h => hT.s14 h, fun h => hT.s15 h, fun h => hT.s16 h, fun h => hT.s18 h, fun _ => rfl, fun h => hT.s22 h⟩, ⟨hW.blk, hW.bel, hW.a0, hW.a6, hW.a12, hW.a5, hW.a11, hW.a17, hW.sep⟩⟩
    · have d20 : D 20 = true := hn 20 (needs_b (by kernel_rfl))
      have d11 : D 11 = true := hn 11 (needs_b (by kernel_rfl))
      have e26 := hT.s20 d20
      obtain ⟨g3, c3, e18, _, _, _⟩ := hW.a11 d11
      have c0 : w.cell? ⟨s, 1, none⟩ = some (.slice (some ⟨gk, 0, none⟩) n ck) := (hW.blk.cell 1).trans (by simp [hD])
      have f0 := hW.blk.frozen 1
      have ho : Only [s] w (w.setCell ⟨s, 1, none⟩ (.slice (some ⟨g3, 0, none⟩) n c3)) := Only.setCell _ _ (by simp) _
      have hbk := hW.blk.set_ 1 (.slice (some ⟨g3, 0, none⟩) n c3)
      refine wpOp_plain rfl rfl ?_
      go_simp
      exact ⟨u, by first | rfl | simp [e26, e18], ⟨fun h => hT.s1 h, fun h => hT.s2 h, fun h => hT.s3 h, fun h => hT.s4 h, fun h => hT.s7 h, fun h => hT.s8 h, fun h => hT.s9 h, fun h => hT.s10 h, fun h => hT.s13 h, fun h => hT.s14 h, fun h => hT.s15 h, fun h => hT.s16 h, fun h => hT.s18 h, fun h => hT.s20 h, fun h => hT.s22 h⟩, hW.stored HSG.out ho (D1 D 21) (by simp [D1]) (by show Blk _ _ _ #[cond (D 19) (u 12) (.slice (some ⟨gl, 0, none⟩) n cl), u 18, cond (D 23) (u 24) (.slice (some ⟨gw, 0, none⟩) n cw), .int .i64 d.rB, .bool d.dead, .int .i64 d.changes]; rw [e18]; exact hbk)⟩
    · refine wpOp_plain rfl rfl ?_
      go_simp
      exact ⟨upd u 27 (.pointer (some ⟨s, 2, none⟩)), rfl, ⟨fun h => hT.s1 h, fun h => hT.s2 h, fun h => hT.s3 h, fun h => hT.s4 h, fun h => hT.s7 h, fun h => hT.s8 h, fun h => hT.s9 h, fun h => hT.s10 h, fun h => hT.s13 h, fun h => hT.s14 h, fun h => hT.s15 h, fun h => hT.s16 h, fun h => hT.s18 h, fun h => hT.s20 h, fun _ => rfl⟩, ⟨hW.blk, hW.bel, hW.a0, hW.a6, hW.a12, hW.a5, hW.a11, hW.a17, hW.sep⟩⟩
    · have d22 : D 22 = true := hn 22 (needs_b (by kernel_rfl))
      have d17 : D 17 = true := hn 17 (needs_b (by kernel_rfl))
      have e27 := hT.s22 d22
      obtain ⟨g3, c3, e24, _, _, _⟩ := hW.a17 d17
      have c0 : w.cell? ⟨s, 2, none⟩ = some (.slice (some ⟨gw, 0, none⟩) n cw) := (hW.blk.cell 2).trans (by simp [hD])
      have f0 := hW.blk.frozen 2
      have ho : Only [s] w (w.setCell ⟨s, 2, none⟩ (.slice (some ⟨g3, 0, none⟩) n c3)) := Only.setCell _ _ (by simp) _
      have hbk := hW.blk.set_ 2 (.slice (some ⟨g3, 0, none⟩) n c3)
      refine wpOp_plain rfl rfl ?_
      go_simp
      exact ⟨u, by first | rfl | simp [e27, e24], ⟨fun h => hT.s1 h, fun h => hT.s2 h, fun h => hT.s3 h, fun h => hT.s4 h, fun h => hT.s7 h, fun h => hT.s8 h, fun h => hT.s9 h, fun h => hT.s10 h, fun h => hT.s13 h, fun h => hT.s14 h, fun h => hT.s15 h, fun h => hT.s16 h, fun h => hT.s18 h, fun h => hT.s20 h, fun h => hT.s22 h⟩, hW.stored HSG.out ho (D1 D 23) (by simp [D1]) (by show Blk _ _ _ #[cond (D 19) (u 12) (.slice (some ⟨gl, 0, none⟩) n cl), cond (D 21) (u 18) (.slice (some ⟨gk, 0, none⟩) n ck), u 24, .int .i64 d.rB, .bool d.dead, .int .i64 d.changes]; rw [e24]; exact hbk)⟩
  case fin =>
    intro D a w hI hall
    obtain ⟨u, rfl, hT, hW⟩ := hI
    have hbk := hW.blk
    rw [hall 19 (by decide), hall 21 (by decide), hall 23 (by decide)] at hbk
    obtain ⟨g1, x1, e1, s1, t1, r1⟩ := hW.a5 (hall 5 (by decide))
    obtain ⟨g2, x2, e2, s2, t2, r2⟩ := hW.a11 (hall 11 (by decide))
    obtain ⟨g3, x3, e3, s3, t3, r3⟩ := hW.a17 (hall 17 (by decide))
    have hne : g1 ≠ g2 := fun e => hW.sep (hall 5 (by decide)) (hall 11 (by decide)) g1 (by rw [e1]; rfl) (by rw [e2, e]; rfl)
    have hbk : Blk w s 87 #[u 12, u 18, u 24, .int .i64 d.rB, .bool d.dead, .int .i64 d.changes] := hbk
    rw [e1, e2, e3] at hbk
    have HF := Lib.hid (show RDev w s g1 g2 g3 d from ⟨⟨x1, x2, x3, by rw [HN.out]; exact t1, by rw [HN.out]; exact t2, by rw [HN.out]; exact t3, by rw [HN.out]; exact hbk⟩, r1, r2, r3, hne, by rw [HN.out]; exact ⟨h1, h2⟩, HD.out.burns, HD.out.ok⟩)
    have HB := Lib.hid hW.bel
    have HG := Lib.hid (And.intro s1 (And.intro s2 s3))
    clear hbk r1 r2 r3 hW hT hall hne s1 s2 s3 t1 t2 t3
    go_wp2
    go_ret
    exact ⟨s, g1, g2, g3, rfl, by simp; exact ⟨HSG.out, HG.out.1, HG.out.2.1, HG.out.2.2⟩, HF.out, HB.out⟩

end Go.Proofs.Yteaimjfpmacgeaa