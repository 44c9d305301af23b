/- The reference's device: Of (printed by gen_rvf.py). -/
import Derived.Test.YteaimjfpmacgeaaRvE
import Derived.Test.YteaimjfpmacgeaaInv
namespace Go.Proofs.Yteaimjfpmacgeaa
open Go.RowKit
set_option linter.unusedVariables false

def ofD (pss : List (List Int)) : DSt := { l := pss.map fun p => { now := p, kept := p, waits := false }, dead := false, fused := false, burns := 0, changes := 0 }

theorem Only.of_grownO {w w' : World} {r : Option Nat} (h : w.grownBy w' r) : Only r.toList w w' := by
  cases r with
  | some g => exact Only.of_grown h
  | none => exact ⟨h.os, h.tape, h.output, h.size, fun k hk _ => h.block k hk (by simp)⟩
theorem OBs.keepR {ds : List Nat} {w w' : World} {base : Nat} {v : Value} {pss : List (List Int)} (h : OBs w base v pss) (ho : Only ds w w') (h8 : ∀ g ∈ ds, ∀ cur, ¬ Blk w g 5 cur) (hr : ∀ g, v.ownBlock = some g → g ∉ ds) : OBs w' base v pss := by
  obtain ⟨vs, h1, h2⟩ := h
  exact ⟨vs, ho.owns h1 hr, h2.mono fun u p q => q.only ho h8⟩
theorem run_append_block {w : World} {ty : TypeId} {base : Nat} {v : Value} {n : Nat} {xs : List Value} (hown : w.ownsRow base 29 1 v n xs) {b cap : Nat} {u : Value} (hc : w.cell? ⟨b, 0, none⟩ = some u) (h1 : u.oneCell' = true) (hn : n + 1 ≤ 5000000000000)
    {v' : Value} {w' : World} (hrun : (Builtin.append_ #[51, 51] ty #[v, .slice (some ⟨b, 0, none⟩) 1 cap]).run Try.prog w = .ok v' w') : ∀ g, v'.ownBlock = some g → v.ownBlock = some g ∨ w.heap.size ≤ g := by
  obtain ⟨i0, hi, hz0, hz1, hz2⟩ := info_parts infoTB
  have hnews : ∀ j y, [u][j]? = some y → w.cell? ((⟨b, 0, none⟩ : Addr).add j) = some y := fun j y hj => by
    match j, hj with
    | 0, hj => simp at hj; subst hj; exact hc
    | j + 1, hj => simp at hj
  obtain ⟨hxs, hv⟩ := hown
  rcases hv with ⟨rfl, rfl⟩ | ⟨g0, c0, cur, rfl, hg0, hh, hnc, hcm, hcur, htk⟩
  · obtain ⟨v2, w2, hr2, ho2, _⟩ := run_append_own (P := Try.prog) w w.heap.size 51 ty 29 i0 (.slice none 0 0) 1 24 Try.underlying51 hi hz0 hz1 hz2 rfl (by decide) (.slice none 0 0) 0 [] (World.ownsRow_nil _ _ _ _) ⟨b, 0, none⟩ 1 cap [u] rfl hnews (by simpa using h1) (by unfold maxLen; omega) (by omega) (Nat.le_refl _)
    rw [hrun] at hr2
    injection hr2 with e1 e2
    subst e1
    intro g hg
    right
    rcases ho2.2 with ⟨rfl, _⟩ | ⟨g1, c1, cur1, rfl, h3, _⟩
    · cases hg
    · cases hg; exact h3
  · by_cases hroom : n + 1 ≤ c0
    · have k : Blk w g0 29 cur := hh
      have hr2 := run_append_room_cells (P := Try.prog) w 51 ty 29 i0 Try.underlying51 hi g0 0 n c0 ⟨b, 0, none⟩ 1 cap [u] (by rw [hz1]; rfl) hnews (by simpa using h1) hroom
        (fun j hj => by
          rw [hz1, k.cell]
          have hj0 : j = 0 := by simpa using hj
          subst hj0
          rw [Array.getElem?_eq_getElem (by omega)]; rfl) (fun j hj => k.frozen _)
      rw [hrun] at hr2
      injection hr2 with e1 e2
      subst e1
      intro g hg
      exact Or.inl hg
    · obtain ⟨v2, w2, hr2, ho2, _⟩ := run_append_arg_grows (P := Try.prog) w 51 ty 29 i0 (.slice none 0 0) 1 24 Try.underlying51 hi hz0 hz1 hz2 rfl (by decide) ⟨g0, 0, none⟩ n c0 xs hxs (fun j y hj => by
        rw [add_plain0, Nat.zero_add]
        have k : Blk w g0 29 cur := hh
        rw [k.cell, ← Array.getElem?_toList]
        rw [← htk, List.getElem?_take] at hj
        split at hj
        · exact hj
        · cases hj) ⟨b, 0, none⟩ 1 cap [u] rfl hnews (by omega) (by unfold maxLen; omega) (by omega)
      rw [hrun] at hr2
      injection hr2 with e1 e2
      subst e1
      intro g hg
      right
      rcases ho2.2 with ⟨rfl, _⟩ | ⟨g1, c1, cur1, rfl, h3, _⟩
      · cases hg
      · cases hg; exact h3
theorem step_append_ob2 {w : World} {ops : Array Oper} {o : Oper} {a : Act} {K : Act → World → Prop} {Q : Exit → Act → World → Prop} {E : Prop} (hgd : o.guard = none) (s x : Operand)
    (ho : o.op = .call { callee := .builtin .append, args := #[s, x], argTypes := #[51, 51] })
    (base : Nat) (v : Value) (pss : List (List Int)) (hs : a.eval s = v) (hown : OBs w base v pss)
    (b cap : Nat) (hx : a.eval x = .slice (some ⟨b, 0, none⟩) 1 cap) (u : Value) (hc : w.cell? ⟨b, 0, none⟩ = some u) (p : List Int) (hu : OB w base u p)
    (h63 : pss.length + 1 ≤ 5000000000000) (hbase : base ≤ w.heap.size)
    (h : ∀ v' w', OBs w' base v' (pss ++ [p]) → Below base w w' → w.grownBy w' v.ownBlock → (∀ g, v'.ownBlock = some g → v.ownBlock = some g ∨ w.heap.size ≤ g) → K (a.put o.dst v') w') : if Region.wanted o (yielded ops a.tmps) = true then Oper.wp Try.prog o a w K Q else E := by
  obtain ⟨v', w', hrun, q1, q2, q3⟩ := run_append_ob (ty := o.type) base v pss hown b cap u hc p hu h63 hbase
  have h1 : u.oneCell' = true := by obtain ⟨ua, un, uc, rfl⟩ := hu.sl.val; rfl
  obtain ⟨vs, hvs, _⟩ := hown
  have q4 := run_append_block hvs hc h1 h63 hrun
  have hw : Region.wanted o (yielded ops a.tmps) = true := by simp [Region.wanted, hgd]
  rw [if_pos hw]
  unfold Oper.wp
  simp [execOp, ho, resolve, invoke, builtin, hs, hx, hrun, Result.andThen]
  exact h v' w' q1 q2 q3 q4
theorem OBs.trow {w : World} {base : Nat} {v : Value} {pss : List (List Int)} (h : OBs w base v pss) (hp : 1 ≤ pss.length) : ∃ gl cl, v = .slice (some ⟨gl, 0, none⟩) pss.length cl ∧ base ≤ gl ∧ (pss.length ≤ cl ∧ cl ≤ 9223372036854775807) ∧ TRow w gl pss := by
  obtain ⟨vs, h1, h2⟩ := h
  rcases h1.2 with ⟨_, e⟩ | ⟨g, c, cur, rfl, hg, hh, hn, hm, hc, ht⟩
  · omega
  · refine ⟨g, c, rfl, hg, ⟨hn, by unfold maxLen at hm; exact hm⟩, cur, hh, fun i bs hi => ?_⟩
    have hil : i < pss.length := (List.getElem?_eq_some_iff.1 hi).1
    have hiv : i < vs.length := by rw [h2.len]; exact hil
    have e : cur[i]? = some vs[i] := by
      rw [← Array.getElem?_toList, ← List.getElem?_eq_getElem hiv, ← ht, List.getElem?_take]
      rw [if_pos (by omega)]
    exact ⟨vs[i], e, (h2.at i _ _ (List.getElem?_eq_getElem hiv) hi).base (Nat.zero_le _)⟩
theorem brow_own {w : World} {base : Nat} {v : Value} {n : Nat} (h1 : w.ownsRow base 4 1 v n (List.replicate n (.bool false))) (hp : 1 ≤ n) : ∃ gl cl, v = .slice (some ⟨gl, 0, none⟩) n cl ∧ base ≤ gl ∧ (n ≤ cl ∧ cl ≤ 9223372036854775807) ∧ BRow w gl (List.replicate n false) := by
  rcases h1.2 with ⟨_, e⟩ | ⟨g, c, cur, rfl, hg, hh, hn, hm, hc, ht⟩
  · omega
  · refine ⟨g, c, rfl, hg, ⟨hn, by unfold maxLen at hm; exact hm⟩, cur, hh, fun i b hi => ?_⟩
    rw [List.getElem?_replicate] at hi
    split at hi
    · cases hi
      rename_i hil
      have e : (List.replicate n (Value.bool false))[i]? = some (.bool false) := by rw [List.getElem?_replicate, if_pos hil]
      rw [← ht, List.getElem?_take, if_pos (by omega), Array.getElem?_toList] at e
      exact e
    · cases hi
theorem infoBoolR : (Try.prog.info? 4).map (fun i => (i.zero, i.size, i.bytes)) = some (some (.bool false), 1, 1) := by kernel_rfl
/-- An append to an empty literal without room: a new block. -/
theorem run_append_new (w : World) (ty : TypeId) (g : Nat) (ta : Option Addr) (tc : Nat) (p : List Int) (hp : p.length = 64) (hs : Sl w (.slice ta 64 tc) (p.map (Value.int .u8))) :
    ∃ v' w', (Builtin.append_ #[29, 29] ty #[.slice (some ⟨g, 0, none⟩) 0 0, .slice ta 64 tc]).run Try.prog w = .ok v' w' ∧ OB w' w.heap.size v' p ∧ Below w.heap.size w w' := by
  obtain ⟨i0, hi, hz0, hz1, hz2⟩ := info_parts info8c
  obtain ⟨b, off, rfl, hb, hc⟩ := hs.addr (by rw [List.length_map]; omega)
  obtain ⟨v', w', h1, h2, h3⟩ := run_append_arg_grows (P := Try.prog) w 29 ty 5 i0 (.int .u8 0) 1 1 Try.underlying29 hi hz0 hz1 hz2 rfl (by decide) ⟨g, 0, none⟩ 0 0 [] rfl (fun j u hj => by simp at hj) ⟨b, off, none⟩ 64 tc (p.map (Value.int .u8)) (by simp [hp]) (fun j u hj => by rw [add_plain0]; exact hc j u hj) (by omega) (by unfold maxLen; omega) (by omega)
  refine ⟨v', w', h1, ?_, (Below.refl _ _).grown h3 (Nat.le_refl _) (fun k hk => by cases hk)⟩
  unfold OB
  rw [hp]
  simpa using h2
theorem step_append_new {w : World} {ops : Array Oper} {o : Oper} {a : Act} {K : Act → World → Prop} {Q : Exit → Act → World → Prop} {E : Prop} (hgd : o.guard = none) (s x : Operand)
    (ho : o.op = .call { callee := .builtin .append, args := #[s, x], argTypes := #[29, 29] })
    (g : Nat) (hs : a.eval s = .slice (some ⟨g, 0, none⟩) 0 0) (ta : Option Addr) (tc : Nat) (hx : a.eval x = .slice ta 64 tc) (p : List Int) (hp : p.length = 64) (hu : Sl w (.slice ta 64 tc) (p.map (Value.int .u8)))
    (h : ∀ v' w', OB w' w.heap.size v' p → Below w.heap.size w w' → K (a.put o.dst v') w') : if Region.wanted o (yielded ops a.tmps) = true then Oper.wp Try.prog o a w K Q else E := by
  obtain ⟨v', w', hrun, q1, q2⟩ := run_append_new w o.type g ta tc p hp hu
  have hw : Region.wanted o (yielded ops a.tmps) = true := by simp [Region.wanted, hgd]
  rw [if_pos hw]
  unfold Oper.wp
  simp [execOp, ho, resolve, invoke, builtin, hs, hx, hrun, Result.andThen]
  exact h v' w' q1 q2
theorem step_append_false {w : World} {ops : Array Oper} {o : Oper} {a : Act} {K : Act → World → Prop} {Q : Exit → Act → World → Prop} {E : Prop} (hgd : o.guard = none) (s x : Operand)
    (ho : o.op = .call { callee := .builtin .append, args := #[s, x], argTypes := #[85, 85] })
    (base : Nat) (v : Value) (n : Nat) (xs : List Value) (hs : a.eval s = v) (hown : w.ownsRow base 4 1 v n xs)
    (b : Nat) (hx : a.eval x = .slice (some ⟨b, 0, none⟩) 1 1) (hc : w.cell? ⟨b, 0, none⟩ = some (.bool false)) (hn : n ≤ 16384) (hbase : base ≤ w.heap.size)
    (h : ∀ v' w', w'.ownsRow base 4 1 v' (n + 1) (xs ++ [.bool false]) → w.grownBy w' v.ownBlock → K (a.put o.dst v') w') : if Region.wanted o (yielded ops a.tmps) = true then Oper.wp Try.prog o a w K Q else E := by
  obtain ⟨i0, hi, hz0, hz1, hz2⟩ := info_parts infoBoolR
  obtain ⟨v', w', hrun, hown', hg, _⟩ := run_append_own (P := Try.prog) w base 85 o.type 4 i0 (.bool false) 1 1 Try.underlying85 hi hz0 hz1 hz2 rfl (by decide) v n xs hown ⟨b, 0, none⟩ 1 1 [.bool false] rfl
    (fun j y hj => by
      match j, hj with
      | 0, hj => simp at hj; subst hj; exact hc
      | j + 1, hj => simp at hj) (by simp [Value.oneCell']) (by unfold maxLen; omega) (by omega) hbase
  have hw : Region.wanted o (yielded ops a.tmps) = true := by simp [Region.wanted, hgd]
  rw [if_pos hw]
  unfold Oper.wp
  simp [execOp, ho, resolve, invoke, builtin, hs, hx, hrun, Result.andThen]
  exact h v' w' hown' hg

/-- The call's slots in the region. -/
abbrev ofAct (y : Nat) (ta : Option Addr) (tc : Nat) (x0 x1 x2 x3 x5 x7 x8 x9 x10 x11 x12 x13 x14 x15 x16 x17 x18 x19 x20 x21 x22 x23 x24 x25 x59 x60 : Value) (u : Nat → Value) : Act := { tmps := #[x0, x1, x2, x3, .pointer (some ⟨y, 0, none⟩), x5, .slice ta 64 tc, x7, x8, x9, x10, x11, x12, x13, x14, x15, x16, x17, x18, x19, x20, x21, x22, x23, x24, x25, u 26, u 27, u 28, u 29, u 30, u 31, u 32, u 33, u 34, u 35, u 36, u 37, u 38, u 39, u 40, u 41, u 42, u 43, u 44, u 45, u 46, u 47, u 48, u 49, u 50, u 51, u 52, u 53, u 54, u 55, u 56, u 57, u 58, x59, x60], defers := [] }
/-- What the operations that have come up have yielded. -/
structure OfT (y : Nat) (vL vK vW : Value) (ta : Option Addr) (tc : Nat) (D : Nat → Bool) (u : Nat → Value) : Prop where
  s0 : D 0 = true → u 26 = .pointer (some ⟨y, 0, none⟩)
  s1 : D 1 = true → u 27 = .pointer (some ⟨y, 0, none⟩)
  s2 : D 2 = true → u 28 = .pointer (some ⟨y, 0, none⟩)
  s3 : D 3 = true → u 29 = .pointer (some ⟨y, 0, none⟩)
  s4 : D 4 = true → u 30 = .pointer (some ⟨y, 0, none⟩)
  s5 : D 5 = true → u 31 = .pointer (some ⟨y, 0, none⟩)
  s6 : D 6 = true → u 32 = vL
  s8 : D 8 = true → u 34 = .slice ta 64 tc
  s12 : D 12 = true → u 38 = .pointer (some ⟨y, 0, none⟩)
  s13 : D 13 = true → u 39 = .pointer (some ⟨y, 0, none⟩)
  s14 : D 14 = true → u 40 = .pointer (some ⟨y, 1, none⟩)
  s15 : D 15 = true → u 41 = vK
  s17 : D 17 = true → u 43 = .slice ta 64 tc
  s21 : D 21 = true → u 47 = .pointer (some ⟨y, 0, none⟩)
  s22 : D 22 = true → u 48 = .pointer (some ⟨y, 0, none⟩)
  s23 : D 23 = true → u 49 = .pointer (some ⟨y, 2, none⟩)
  s24 : D 24 = true → u 50 = vW
  s27 : D 27 = true → u 53 = .pointer (some ⟨y, 0, none⟩)
  s28 : D 28 = true → u 54 = .pointer (some ⟨y, 0, none⟩)
  s30 : D 30 = true → u 55 = .pointer (some ⟨y, 0, none⟩)
  s31 : D 31 = true → u 56 = .pointer (some ⟨y, 1, none⟩)
  s33 : D 33 = true → u 57 = .pointer (some ⟨y, 0, none⟩)
  s34 : D 34 = true → u 58 = .pointer (some ⟨y, 2, none⟩)
structure OfW (y n : Nat) (vL vK vW : Value) (X : List (List Int)) (p : List Int) (W : World) (D : Nat → Bool) (u : Nat → Value) (w : World) : Prop where
  blk : Blk w y 87 #[cond (D 29) (u 37) vL, cond (D 32) (u 46) vK, cond (D 35) (u 52) vW, .int .i64 (-1), .bool false, .int .i64 0]
  bel : Below W.heap.size W w
  l0 : D 11 = false → OBs w W.heap.size vL X
  l1 : D 11 = true → OBs w W.heap.size (u 37) (X ++ [p])
  k0 : D 20 = false → OBs w W.heap.size vK X
  k1 : D 20 = true → OBs w W.heap.size (u 46) (X ++ [p])
  w0 : D 26 = false → w.ownsRow W.heap.size 4 1 vW n (List.replicate n (.bool false))
  w1 : D 26 = true → w.ownsRow W.heap.size 4 1 (u 52) (n + 1) (List.replicate n (.bool false) ++ [.bool false])
  sep : ∀ g, (cond (D 11) (u 37) vL).ownBlock = some g → (cond (D 20) (u 46) vK).ownBlock ≠ some g
  a7 : D 7 = true → ∃ g, u 33 = .slice (some ⟨g, 0, none⟩) 0 0
  a9 : D 9 = true → OB w W.heap.size (u 35) p
  a10 : D 10 = true → D 11 = false → ∃ b, u 36 = .slice (some ⟨b, 0, none⟩) 1 1 ∧ Blk w b 29 #[u 35]
  a16 : D 16 = true → ∃ g, u 42 = .slice (some ⟨g, 0, none⟩) 0 0
  a18 : D 18 = true → OB w W.heap.size (u 44) p
  a19 : D 19 = true → D 20 = false → ∃ b, u 45 = .slice (some ⟨b, 0, none⟩) 1 1 ∧ Blk w b 29 #[u 44]
  a25 : D 25 = true → D 26 = false → ∃ b, u 51 = .slice (some ⟨b, 0, none⟩) 1 1 ∧ Blk w b 4 #[.bool false]
theorem OfW.below {y n : Nat} {vL vK vW : Value} {X : List (List Int)} {p : List Int} {W : World} {D : Nat → Bool} {u : Nat → Value} {w w' : World} (h : OfW y n vL vK vW X p W D u w) (hb : Below w.heap.size w w') : OfW y n vL vK vW X p W D u w' :=
  ⟨h.blk.belowS hb, below_trans2 h.bel hb, fun q => (h.l0 q).below hb, fun q => (h.l1 q).below hb, fun q => (h.k0 q).below hb, fun q => (h.k1 q).below hb, fun q => ownsRow_below (h.w0 q) hb (Nat.le_refl _), fun q => ownsRow_below (h.w1 q) hb (Nat.le_refl _), h.sep, h.a7, fun q => (h.a9 q).below hb, fun q r => (by obtain ⟨b, e, k⟩ := h.a10 q r; exact ⟨b, e, k.belowS hb⟩), h.a16, fun q => (h.a18 q).below hb, fun q r => (by obtain ⟨b, e, k⟩ := h.a19 q r; exact ⟨b, e, k.belowS hb⟩), fun q r => (by obtain ⟨b, e, k⟩ := h.a25 q r; exact ⟨b, e, k.belowS hb⟩)⟩
def ofInv (y n : Nat) (vL vK vW : Value) (X : List (List Int)) (p : List Int) (W : World) (ta : Option Addr) (tc : Nat) (x0 x1 x2 x3 x5 x7 x8 x9 x10 x11 x12 x13 x14 x15 x16 x17 x18 x19 x20 x21 x22 x23 x24 x25 x59 x60 : Value) (D : Nat → Bool) (a : Act) (w : World) : Prop :=
  ∃ u, a = ofAct y ta tc x0 x1 x2 x3 x5 x7 x8 x9 x10 x11 x12 x13 x14 x15 x16 x17 x18 x19 x20 x21 x22 x23 x24 x25 x59 x60 u ∧ OfT y vL vK vW ta tc D u ∧ OfW y n vL vK vW X p W D u w
theorem needs_b {ops : Array Oper} {i j : Nat} (h : (needs ops i).contains j = true) : j ∈ needs ops i := List.contains_iff_mem.1 h

set_option maxRecDepth 100000 in
set_option maxHeartbeats 4000000 in
theorem rof_ok (v : Value) (pss : List (List Int)) (w0 : World) (hv : Sls w0 v pss) (h1 : 1 ≤ pss.length) (h2 : pss.length ≤ 16384) (hl : ∀ p ∈ pss, p.length = 64 ∧ IsB p) :
    Calls Try.prog 34 #[v] w0 fun e w' => ∃ y gl gk gw, e = .returned (.tuple #[.pointer (some ⟨y, 0, none⟩), .int .i64 0]) ∧ (∀ k ∈ [y, gl, gk, gw], w0.heap.size ≤ k) ∧ RDev w' y gl gk gw (ofD pss) ∧ Below w0.heap.size w0 w' := by
  have HV := Lib.hid hv
  obtain ⟨va, vc, rfl, hvc, hvm⟩ := hv.shape
  have hbA : Below w0.heap.size w0 (w0.alloc (.cells #[.slice none 0 0, .slice none 0 0, .slice none 0 0, .int .i64 (-1), .bool false, .int .i64 0] 87)) := (Below.refl _ _).alloc (Nat.le_refl _) _
  have kA := Blk.new w0 87 #[.slice none 0 0, .slice none 0 0, .slice none 0 0, .int .i64 (-1), .bool false, .int .i64 0]
  have HBA := Lib.hid hbA
  have HKA := Lib.hid kA
  have HH := Lib.hid hl
  have hI1 : ¬ (pss.length : Int) < 1 := by omega
  have hI2 : ¬ (16384 : Int) < (pss.length : Int) := by omega
  clear hv hbA kA hl
  go_enter Try.func34, Try.ntmps34
  go_upto_region 5 with (fail)
  generalize (w0.alloc (.cells #[.slice none 0 0, .slice none 0 0, .slice none 0 0, .int .i64 (-1), .bool false, .int .i64 0] 87)) = wA at *
  go_loopw [19] (fun i wr => ∃ (k : Nat) (vL vK vW : Value), k ≤ pss.length ∧ i = .int .i64 k ∧ Blk wr w0.heap.size 87 #[vL, vK, vW, .int .i64 (-1), .bool false, .int .i64 0] ∧ OBs wr w0.heap.size vL (pss.take k) ∧ OBs wr w0.heap.size vK (pss.take k) ∧ wr.ownsRow w0.heap.size 4 1 vW k (List.replicate k (.bool false)) ∧ (∀ g, vL.ownBlock = some g → vK.ownBlock ≠ some g) ∧ Below w0.heap.size w0 wr) (fun i _ => pss.length - (intOf i).toNat)
  case atStart => exact ⟨0, _, _, _, by omega, rfl, HKA.out, OBs.nil _ _, OBs.nil _ _, World.ownsRow_nil _ _ _ _, fun g hg => (by cases hg), HBA.out⟩
  case round =>
    obtain ⟨k, vL, vK, vW, hk, rfl, hY, hL, hK, hW, hsep, hb⟩ := hrel
    by_cases hlt : k < pss.length
    · have hkI : (k : Int) < (pss.length : Int) := by omega
      obtain ⟨b, off, rfl, hbb, uu, hcu, hu⟩ := HV.out.at hlt
      have hcu := (hb.cell (p := ⟨b, off + k, none⟩) hbb).trans hcu
      rw [show pss.getD k [] = pss[k] from by rw [List.getD_eq_getElem?_getD, List.getElem?_eq_getElem hlt]; rfl] at hu
      have hp := HH.out _ (List.getElem_mem hlt)
      have ht : pss.take k ++ [pss[k]] = pss.take (k + 1) := by rw [List.take_append_getElem]
      generalize pss[k] = p at *
      obtain ⟨ta, tc, rfl, htc, htm⟩ := hu.shape
      have HP := Lib.hid hp.1
      rw [List.length_map, hp.1] at hcu hu htc
      have HS := Lib.hid hu
      clear hu hp
      go_upto_region 9 with (fail)
      have hX : (pss.take k).length ≤ 16384 := by rw [List.length_take]; omega
      generalize pss.take k = X at *
      refine wp_region_inv2 (ofInv w0.heap.size k vL vK vW X p w0 ta tc (.slice (some ⟨b, off, none⟩) pss.length vc) undef u2 u3 undef (.slice (some ⟨b, off, none⟩) pss.length vc) (.int .i64 pss.length) (.bool false) (.bool false) (.slice (some ⟨b, off, none⟩) pss.length vc) (.int .i64 pss.length) (.bool false) (.bool false) (.agg #[.slice none 0 0, .slice none 0 0, .slice none 0 0, .int .i64 (-1), .bool false, .int .i64 0]) (.pointer (some ⟨w0.heap.size, 0, none⟩)) (.slice (some ⟨b, off, none⟩) pss.length vc) (.int .i64 pss.length) (.int .i64 k) (.bool true) (.pointer (some ⟨b, off + k, none⟩)) (.slice ta 64 tc) (.slice ta 64 tc) (.int .i64 64) (.bool false) u59 undef) (by kernel_rfl) (by kernel_rfl) ?start ?step ?fin
      case start =>
        refine ⟨fun k => (#[u26, u27, u28, u29, u30, u31, u32, u33, u34, u35, u36, u37, u38, u39, u40, u41, u42, u43, u44, u45, u46, u47, u48, u49, u50, u51, u52, u53, u54, u55, u56, u57, u58] : Array Value).getD (k - 26) undef, rfl, ?_, ?_⟩
        · exact ⟨(fun q => by cases q), (fun q => by cases q), (fun q => by cases q), (fun q => by cases q), (fun q => by cases q), (fun q => by cases q), (fun q => by cases q), (fun q => by cases q), (fun q => by cases q), (fun q => by cases q), (fun q => by cases q), (fun q => by cases q), (fun q => by cases q), (fun q => by cases q), (fun q => by cases q), (fun q => by cases q), (fun q => by cases q), (fun q => by cases q), (fun q => by cases q), (fun q => by cases q), (fun q => by cases q), (fun q => by cases q), (fun q => by cases q)⟩
        · exact ⟨hY, hb.drew, fun _ => hL.only (Only.refl [] wr).drew (by simp), (fun q => by cases q), fun _ => hK.only (Only.refl [] wr).drew (by simp), (fun q => by cases q), fun _ => hW, (fun q => by cases q), hsep, (fun q => by cases q), (fun q => by cases q), (fun q => by cases q), (fun q => by cases q), (fun q => by cases q), (fun q => by cases q), (fun q => by cases q)⟩
      case step =>
        intro D a w i hi hI hD hcl hn
        obtain ⟨u, rfl, hT, hW⟩ := hI
        have hi' : i < 36 := hi
        clear hi
        rcases (show i = 0 ∨ i = 1 ∨ i = 2 ∨ i = 3 ∨ i = 4 ∨ i = 5 ∨ i = 6 ∨ i = 7 ∨ i = 8 ∨ i = 9 ∨ i = 10 ∨ i = 11 ∨ i = 12 ∨ i = 13 ∨ i = 14 ∨ i = 15 ∨ i = 16 ∨ i = 17 ∨ i = 18 ∨ i = 19 ∨ i = 20 ∨ i = 21 ∨ i = 22 ∨ i = 23 ∨ i = 24 ∨ i = 25 ∨ i = 26 ∨ i = 27 ∨ i = 28 ∨ i = 29 ∨ i = 30 ∨ i = 31 ∨ i = 32 ∨ i = 33 ∨ i = 34 ∨ i = 35 from by omega) with rfl | rfl | rfl | rfl | rfl | rfl | rfl | rfl | rfl | rfl | rfl | rfl | rfl | rfl | rfl | rfl | rfl | rfl | rfl | rfl | rfl | rfl | rfl | rfl | rfl | rfl | rfl | rfl | rfl | rfl | rfl | rfl | rfl | rfl | rfl | rfl
        · refine wpOp_plain rfl rfl ?_
          go_simp
          exact ⟨upd u 26 (.pointer (some ⟨w0.heap.size, 0, none⟩)), rfl, ⟨fun _ => rfl, fun h => hT.s1 h, fun h => hT.s2 h, fun h => hT.s3 h, fun h => hT.s4 h, fun h => hT.s5 h, fun h => hT.s6 h, fun h => hT.s8 h, fun h => hT.s12 h, fun h => hT.s13 h, fun h => hT.s14 h, fun h => hT.s15 h, fun h => hT.s17 h, fun h => hT.s21 h, fun h => hT.s22 h, fun h => hT.s23 h, fun h => hT.s24 h, fun h => hT.s27 h, fun h => hT.s28 h, fun h => hT.s30 h, fun h => hT.s31 h, fun h => hT.s33 h, fun h => hT.s34 h⟩, ⟨hW.blk, hW.bel, hW.l0, hW.l1, hW.k0, hW.k1, hW.w0, hW.w1, hW.sep, hW.a7, hW.a9, hW.a10, hW.a16, hW.a18, hW.a19, hW.a25⟩⟩
        · refine wpOp_plain rfl rfl ?_
          go_simp
          exact ⟨upd u 27 (.pointer (some ⟨w0.heap.size, 0, none⟩)), rfl, ⟨fun h => hT.s0 h, fun _ => rfl, fun h => hT.s2 h, fun h => hT.s3 h, fun h => hT.s4 h, fun h => hT.s5 h, fun h => hT.s6 h, fun h => hT.s8 h, fun h => hT.s12 h, fun h => hT.s13 h, fun h => hT.s14 h, fun h => hT.s15 h, fun h => hT.s17 h, fun h => hT.s21 h, fun h => hT.s22 h, fun h => hT.s23 h, fun h => hT.s24 h, fun h => hT.s27 h, fun h => hT.s28 h, fun h => hT.s30 h, fun h => hT.s31 h, fun h => hT.s33 h, fun h => hT.s34 h⟩, ⟨hW.blk, hW.bel, hW.l0, hW.l1, hW.k0, hW.k1, hW.w0, hW.w1, hW.sep, hW.a7, hW.a9, hW.a10, hW.a16, hW.a18, hW.a19, hW.a25⟩⟩
        · refine wpOp_plain rfl rfl ?_
          go_simp
          exact ⟨upd u 28 (.pointer (some ⟨w0.heap.size, 0, none⟩)), rfl, ⟨fun h => hT.s0 h, fun h => hT.s1 h, fun _ => rfl, fun h => hT.s3 h, fun h => hT.s4 h, fun h => hT.s5 h, fun h => hT.s6 h, fun h => hT.s8 h, fun h => hT.s12 h, fun h => hT.s13 h, fun h => hT.s14 h, fun h => hT.s15 h, fun h => hT.s17 h, fun h => hT.s21 h, fun h => hT.s22 h, fun h => hT.s23 h, fun h => hT.s24 h, fun h => hT.s27 h, fun h => hT.s28 h, fun h => hT.s30 h, fun h => hT.s31 h, fun h => hT.s33 h, fun h => hT.s34 h⟩, ⟨hW.blk, hW.bel, hW.l0, hW.l1, hW.k0, hW.k1, hW.w0, hW.w1, hW.sep, hW.a7, hW.a9, hW.a10, hW.a16, hW.a18, hW.a19, hW.a25⟩⟩
        · refine wpOp_plain rfl rfl ?_
          go_simp
          exact ⟨upd u 29 (.pointer (some ⟨w0.heap.size, 0, none⟩)), rfl, ⟨fun h => hT.s0 h, fun h => hT.s1 h, fun h => hT.s2 h, fun _ => rfl, fun h => hT.s4 h, fun h => hT.s5 h, fun h => hT.s6 h, fun h => hT.s8 h, fun h => hT.s12 h, fun h => hT.s13 h, fun h => hT.s14 h, fun h => hT.s15 h, fun h => hT.s17 h, fun h => hT.s21 h, fun h => hT.s22 h, fun h => hT.s23 h, fun h => hT.s24 h, fun h => hT.s27 h, fun h => hT.s28 h, fun h => hT.s30 h, fun h => hT.s31 h, fun h => hT.s33 h, fun h => hT.s34 h⟩, ⟨hW.blk, hW.bel, hW.l0, hW.l1, hW.k0, hW.k1, hW.w0, hW.w1, hW.sep, hW.a7, hW.a9, hW.a10, hW.a16, hW.a18, hW.a19, hW.a25⟩⟩
        · have d3 : D 3 = true := hn 3 (needs_b (by kernel_rfl))
          have e29 := hT.s3 d3
          refine wpOp_plain rfl rfl ?_
          go_simp
          exact ⟨upd u 30 (.pointer (some ⟨w0.heap.size, 0, none⟩)), by first | rfl | simp [upd, e29], ⟨fun h => hT.s0 h, fun h => hT.s1 h, fun h => hT.s2 h, fun h => hT.s3 h, fun _ => rfl, fun h => hT.s5 h, fun h => hT.s6 h, fun h => hT.s8 h, fun h => hT.s12 h, fun h => hT.s13 h, fun h => hT.s14 h, fun h => hT.s15 h, fun h => hT.s17 h, fun h => hT.s21 h, fun h => hT.s22 h, fun h => hT.s23 h, fun h => hT.s24 h, fun h => hT.s27 h, fun h => hT.s28 h, fun h => hT.s30 h, fun h => hT.s31 h, fun h => hT.s33 h, fun h => hT.s34 h⟩, ⟨hW.blk, hW.bel, hW.l0, hW.l1, hW.k0, hW.k1, hW.w0, hW.w1, hW.sep, hW.a7, hW.a9, hW.a10, hW.a16, hW.a18, hW.a19, hW.a25⟩⟩
        · have d4 : D 4 = true := hn 4 (needs_b (by kernel_rfl))
          have e30 := hT.s4 d4
          refine wpOp_plain rfl rfl ?_
          go_simp
          exact ⟨upd u 31 (.pointer (some ⟨w0.heap.size, 0, none⟩)), by first | rfl | simp [upd, e30], ⟨fun h => hT.s0 h, fun h => hT.s1 h, fun h => hT.s2 h, fun h => hT.s3 h, fun h => hT.s4 h, fun _ => rfl, fun h => hT.s6 h, fun h => hT.s8 h, fun h => hT.s12 h, fun h => hT.s13 h, fun h => hT.s14 h, fun h => hT.s15 h, fun h => hT.s17 h, fun h => hT.s21 h, fun h => hT.s22 h, fun h => hT.s23 h, fun h => hT.s24 h, fun h => hT.s27 h, fun h => hT.s28 h, fun h => hT.s30 h, fun h => hT.s31 h, fun h => hT.s33 h, fun h => hT.s34 h⟩, ⟨hW.blk, hW.bel, hW.l0, hW.l1, hW.k0, hW.k1, hW.w0, hW.w1, hW.sep, hW.a7, hW.a9, hW.a10, hW.a16, hW.a18, hW.a19, hW.a25⟩⟩
        · have d5 : D 5 = true := hn 5 (needs_b (by kernel_rfl))
          have e31 := hT.s5 d5
          have n1 : D 29 = false := by
            cases q : D 29 with
            | false => rfl
            | true => have := hcl 11 6 (hcl 29 11 q (needs_b (by kernel_rfl))) (needs_b (by kernel_rfl)); rw [hD] at this; cases this
          have c0 : w.cell? ⟨w0.heap.size, 0, none⟩ = some vL := (hW.blk.cell 0).trans (by simp [n1])
          refine wpOp_plain rfl rfl ?_
          go_simp
          exact ⟨upd u 32 (vL), by first | rfl | simp [upd, e31], ⟨fun h => hT.s0 h, fun h => hT.s1 h, fun h => hT.s2 h, fun h => hT.s3 h, fun h => hT.s4 h, fun h => hT.s5 h, fun _ => rfl, fun h => hT.s8 h, fun h => hT.s12 h, fun h => hT.s13 h, fun h => hT.s14 h, fun h => hT.s15 h, fun h => hT.s17 h, fun h => hT.s21 h, fun h => hT.s22 h, fun h => hT.s23 h, fun h => hT.s24 h, fun h => hT.s27 h, fun h => hT.s28 h, fun h => hT.s30 h, fun h => hT.s31 h, fun h => hT.s33 h, fun h => hT.s34 h⟩, ⟨hW.blk, hW.bel, hW.l0, hW.l1, hW.k0, hW.k1, hW.w0, hW.w1, hW.sep, hW.a7, hW.a9, hW.a10, hW.a16, hW.a18, hW.a19, hW.a25⟩⟩
        · refine wpOp_plain rfl rfl ?_
          go_simp
          have hb2 : Below w.heap.size w (w.alloc (.cells #[] 5)) := (Below.refl _ _).alloc (Nat.le_refl _) _
          have hW := hW.below hb2
          exact ⟨upd u 33 (.slice (some ⟨w.heap.size, 0, none⟩) 0 0), rfl, ⟨fun h => hT.s0 h, fun h => hT.s1 h, fun h => hT.s2 h, fun h => hT.s3 h, fun h => hT.s4 h, fun h => hT.s5 h, fun h => hT.s6 h, fun h => hT.s8 h, fun h => hT.s12 h, fun h => hT.s13 h, fun h => hT.s14 h, fun h => hT.s15 h, fun h => hT.s17 h, fun h => hT.s21 h, fun h => hT.s22 h, fun h => hT.s23 h, fun h => hT.s24 h, fun h => hT.s27 h, fun h => hT.s28 h, fun h => hT.s30 h, fun h => hT.s31 h, fun h => hT.s33 h, fun h => hT.s34 h⟩, ⟨hW.blk, hW.bel, hW.l0, hW.l1, hW.k0, hW.k1, hW.w0, hW.w1, hW.sep, (fun _ => ⟨_, rfl⟩), hW.a9, hW.a10, hW.a16, hW.a18, hW.a19, hW.a25⟩⟩
        · refine wpOp_plain rfl rfl ?_
          go_simp
          exact ⟨upd u 34 (.slice ta 64 tc), rfl, ⟨fun h => hT.s0 h, fun h => hT.s1 h, fun h => hT.s2 h, fun h => hT.s3 h, fun h => hT.s4 h, fun h => hT.s5 h, fun h => hT.s6 h, fun _ => rfl, fun h => hT.s12 h, fun h => hT.s13 h, fun h => hT.s14 h, fun h => hT.s15 h, fun h => hT.s17 h, fun h => hT.s21 h, fun h => hT.s22 h, fun h => hT.s23 h, fun h => hT.s24 h, fun h => hT.s27 h, fun h => hT.s28 h, fun h => hT.s30 h, fun h => hT.s31 h, fun h => hT.s33 h, fun h => hT.s34 h⟩, ⟨hW.blk, hW.bel, hW.l0, hW.l1, hW.k0, hW.k1, hW.w0, hW.w1, hW.sep, hW.a7, hW.a9, hW.a10, hW.a16, hW.a18, hW.a19, hW.a25⟩⟩
        · have d7 : D 7 = true := hn 7 (needs_b (by kernel_rfl))
          have d8 : D 8 = true := hn 8 (needs_b (by kernel_rfl))
          obtain ⟨g, e33⟩ := hW.a7 d7
          have e34 := hT.s8 d8
          refine wpOp_step rfl rfl (step_append_new rfl (.tmp 33) (.tmp 34) rfl g e33 ta tc e34 p HP.out (HS.out.below hW.bel (Nat.le_refl _)) ?_)
          intro v2 w2 hx hb2
          have hsz := hW.bel.size
          have hW := hW.below hb2
          exact ⟨upd u 35 v2, rfl, ⟨fun h => hT.s0 h, fun h => hT.s1 h, fun h => hT.s2 h, fun h => hT.s3 h, fun h => hT.s4 h, fun h => hT.s5 h, fun h => hT.s6 h, fun h => hT.s8 h, fun h => hT.s12 h, fun h => hT.s13 h, fun h => hT.s14 h, fun h => hT.s15 h, fun h => hT.s17 h, fun h => hT.s21 h, fun h => hT.s22 h, fun h => hT.s23 h, fun h => hT.s24 h, fun h => hT.s27 h, fun h => hT.s28 h, fun h => hT.s30 h, fun h => hT.s31 h, fun h => hT.s33 h, fun h => hT.s34 h⟩, ⟨hW.blk, hW.bel, hW.l0, hW.l1, hW.k0, hW.k1, hW.w0, hW.w1, hW.sep, hW.a7, (fun _ => hx.base hsz), (fun q _ => (by have := hcl 10 9 q (needs_b (by kernel_rfl)); rw [hD] at this; cases this)), hW.a16, hW.a18, hW.a19, hW.a25⟩⟩
        · have d9 : D 9 = true := hn 9 (needs_b (by kernel_rfl))
          obtain ⟨xa, xn, xc, e35⟩ := (hW.a9 d9).sl.val
          refine wpOp_plain rfl rfl ?_
          go_simp
          have hb2 : Below w.heap.size w (w.alloc (.cells #[.slice xa xn xc] 29)) := (Below.refl _ _).alloc (Nat.le_refl _) _
          have kb := Blk.new w 29 #[.slice xa xn xc]
          have hW := hW.below hb2
          exact ⟨upd u 36 (.slice (some ⟨w.heap.size, 0, none⟩) 1 1), by first | rfl | simp [upd, e35], ⟨fun h => hT.s0 h, fun h => hT.s1 h, fun h => hT.s2 h, fun h => hT.s3 h, fun h => hT.s4 h, fun h => hT.s5 h, fun h => hT.s6 h, fun h => hT.s8 h, fun h => hT.s12 h, fun h => hT.s13 h, fun h => hT.s14 h, fun h => hT.s15 h, fun h => hT.s17 h, fun h => hT.s21 h, fun h => hT.s22 h, fun h => hT.s23 h, fun h => hT.s24 h, fun h => hT.s27 h, fun h => hT.s28 h, fun h => hT.s30 h, fun h => hT.s31 h, fun h => hT.s33 h, fun h => hT.s34 h⟩, ⟨hW.blk, hW.bel, hW.l0, hW.l1, hW.k0, hW.k1, hW.w0, hW.w1, hW.sep, hW.a7, hW.a9, (fun _ _ => ⟨w.heap.size, rfl, by show Blk _ _ _ #[u 35]; rw [e35]; exact kb⟩), hW.a16, hW.a18, hW.a19, hW.a25⟩⟩
        · have d6 : D 6 = true := hn 6 (needs_b (by kernel_rfl))
          have d10 : D 10 = true := hn 10 (needs_b (by kernel_rfl))
          have d9 : D 9 = true := hn 9 (needs_b (by kernel_rfl))
          have e32 := hT.s6 d6
          obtain ⟨b, e36, kb⟩ := hW.a10 d10 hD
          have hOL := hW.l0 hD
          have n18 : D 18 = false := by
            cases q : D 18 with
            | false => rfl
            | true => have := hcl 18 11 q (needs_b (by kernel_rfl)); rw [hD] at this; cases this
          have n29 : D 29 = false := by
            cases q : D 29 with
            | false => rfl
            | true => have := hcl 29 11 q (needs_b (by kernel_rfl)); rw [hD] at this; cases this
          have n19 : D 19 = false := by
            cases q : D 19 with
            | false => rfl
            | true => have := hcl 19 18 q (needs_b (by kernel_rfl)); rw [n18] at this; cases this
          refine wpOp_step rfl rfl (step_append_ob2 rfl (.tmp 32) (.tmp 36) rfl w0.heap.size vL X e32 hOL b 1 e36 (u 35) (kb.cell 0) p (hW.a9 d9) (by have := hX; omega) hW.bel.size ?_)
          intro v2 w2 hx hb2 hg2 hq2
          have ho := Only.of_grownO hg2
          have typ : ∀ g ∈ vL.ownBlock.toList, ∃ cur, Blk w g 29 cur := fun g hg => by
            obtain ⟨vs, h1, _⟩ := hOL
            exact owns_blk h1 (by simpa using hg)
          have h8 : ∀ g ∈ vL.ownBlock.toList, ∀ cur, ¬ Blk w g 5 cur := fun g hg cur e => by
            obtain ⟨cur2, k2⟩ := typ g hg
            exact Blk.ne_ e k2 (by decide) rfl
          have hbo : ∀ g ∈ vL.ownBlock.toList, ∀ cur, ¬ Blk w g 4 cur := fun g hg cur e => by
            obtain ⟨cur2, k2⟩ := typ g hg
            exact Blk.ne_ e k2 (by decide) rfl
          have hyn : w0.heap.size ∉ vL.ownBlock.toList := fun hm => by
            obtain ⟨cur2, k2⟩ := typ _ hm
            exact Blk.ne_ hW.blk k2 (by decide) rfl
          have hsp : ∀ g, (cond (D 20) (u 46) vK).ownBlock = some g → g ∉ vL.ownBlock.toList := fun g hg hm => hW.sep g (by rw [hD]; simpa using hm) hg
          have hws : ∀ (v : Value) n xs, w.ownsRow w0.heap.size 4 1 v n xs → w2.ownsRow w0.heap.size 4 1 v n xs := fun v n xs q => ho.owns q fun g hg hm => by
            obtain ⟨cur, k⟩ := owns_blk q hg
            exact hbo g hm cur k
          have hsz := hW.bel.size
          have hlt : ∀ g, (cond (D 20) (u 46) vK).ownBlock = some g → g < w.heap.size := fun g hg => by
            cases q : D 20 with
            | false => rw [q] at hg; obtain ⟨vs, h1, _⟩ := hW.k0 q; obtain ⟨cur, k⟩ := owns_blk h1 hg; exact k.lt
            | true => rw [q] at hg; obtain ⟨vs, h1, _⟩ := hW.k1 q; obtain ⟨cur, k⟩ := owns_blk h1 hg; exact k.lt
          have hsep2 : ∀ g, v2.ownBlock = some g → (cond (D 20) (u 46) vK).ownBlock ≠ some g := fun g h1 h2 => by
            rcases hq2 g h1 with h3 | h3
            · exact hW.sep g (by rw [hD]; exact h3) h2
            · have := hlt g h2; omega
          exact ⟨upd u 37 v2, rfl, ⟨fun h => hT.s0 h, fun h => hT.s1 h, fun h => hT.s2 h, fun h => hT.s3 h, fun h => hT.s4 h, fun h => hT.s5 h, fun h => hT.s6 h, fun h => hT.s8 h, fun h => hT.s12 h, fun h => hT.s13 h, fun h => hT.s14 h, fun h => hT.s15 h, fun h => hT.s17 h, fun h => hT.s21 h, fun h => hT.s22 h, fun h => hT.s23 h, fun h => hT.s24 h, fun h => hT.s27 h, fun h => hT.s28 h, fun h => hT.s30 h, fun h => hT.s31 h, fun h => hT.s33 h, fun h => hT.s34 h⟩, ⟨(by have h := ho.blk hW.blk hyn; rw [n29] at h; show Blk _ _ _ #[cond (D 29) v2 vL, _, _, _, _, _]; rw [n29]; exact h), (hW.bel.trans hb2), (fun q => by cases q), (fun _ => hx), (fun q => (hW.k0 q).keepR ho h8 (by rw [show D 20 = false from q] at hsp; exact hsp)), (fun q => (hW.k1 q).keepR ho h8 (by rw [show D 20 = true from q] at hsp; exact hsp)), (fun q => hws _ _ _ (hW.w0 q)), (fun q => hws _ _ _ (hW.w1 q)), (hsep2), hW.a7, (fun q => (hW.a9 q).only ho h8), (fun _ q => by cases q), hW.a16, (fun q => (hW.a18 q).only ho h8), (fun q => by have q : D 19 = true := q; rw [n19] at q; cases q), (fun q r => by obtain ⟨b2, e2, k2⟩ := hW.a25 q r; exact ⟨b2, e2, ho.blk k2 (fun hm => hbo _ hm _ k2)⟩)⟩⟩
        · refine wpOp_plain rfl rfl ?_
          go_simp
          exact ⟨upd u 38 (.pointer (some ⟨w0.heap.size, 0, none⟩)), rfl, ⟨fun h => hT.s0 h, fun h => hT.s1 h, fun h => hT.s2 h, fun h => hT.s3 h, fun h => hT.s4 h, fun h => hT.s5 h, fun h => hT.s6 h, fun h => hT.s8 h, fun _ => rfl, fun h => hT.s13 h, fun h => hT.s14 h, fun h => hT.s15 h, fun h => hT.s17 h, fun h => hT.s21 h, fun h => hT.s22 h, fun h => hT.s23 h, fun h => hT.s24 h, fun h => hT.s27 h, fun h => hT.s28 h, fun h => hT.s30 h, fun h => hT.s31 h, fun h => hT.s33 h, fun h => hT.s34 h⟩, ⟨hW.blk, hW.bel, hW.l0, hW.l1, hW.k0, hW.k1, hW.w0, hW.w1, hW.sep, hW.a7, hW.a9, hW.a10, hW.a16, hW.a18, hW.a19, hW.a25⟩⟩
        · have d12 : D 12 = true := hn 12 (needs_b (by kernel_rfl))
          have e38 := hT.s12 d12
          refine wpOp_plain rfl rfl ?_
          go_simp
          exact ⟨upd u 39 (.pointer (some ⟨w0.heap.size, 0, none⟩)), by first | rfl | simp [upd, e38], ⟨fun h => hT.s0 h, fun h => hT.s1 h, fun h => hT.s2 h, fun h => hT.s3 h, fun h => hT.s4 h, fun h => hT.s5 h, fun h => hT.s6 h, fun h => hT.s8 h, fun h => hT.s12 h, fun _ => rfl, fun h => hT.s14 h, fun h => hT.s15 h, fun h => hT.s17 h, fun h => hT.s21 h, fun h => hT.s22 h, fun h => hT.s23 h, fun h => hT.s24 h, fun h => hT.s27 h, fun h => hT.s28 h, fun h => hT.s30 h, fun h => hT.s31 h, fun h => hT.s33 h, fun h => hT.s34 h⟩, ⟨hW.blk, hW.bel, hW.l0, hW.l1, hW.k0, hW.k1, hW.w0, hW.w1, hW.sep, hW.a7, hW.a9, hW.a10, hW.a16, hW.a18, hW.a19, hW.a25⟩⟩
        · have d13 : D 13 = true := hn 13 (needs_b (by kernel_rfl))
          have e39 := hT.s13 d13
          refine wpOp_plain rfl rfl ?_
          go_simp
          exact ⟨upd u 40 (.pointer (some ⟨w0.heap.size, 1, none⟩)), by first | rfl | simp [upd, e39], ⟨fun h => hT.s0 h, fun h => hT.s1 h, fun h => hT.s2 h, fun h => hT.s3 h, fun h => hT.s4 h, fun h => hT.s5 h, fun h => hT.s6 h, fun h => hT.s8 h, fun h => hT.s12 h, fun h => hT.s13 h, fun _ => rfl, fun h => hT.s15 h, fun h => hT.s17 h, fun h => hT.s21 h, fun h => hT.s22 h, fun h => hT.s23 h, fun h => hT.s24 h, fun h => hT.s27 h, fun h => hT.s28 h, fun h => hT.s30 h, fun h => hT.s31 h, fun h => hT.s33 h, fun h => hT.s34 h⟩, ⟨hW.blk, hW.bel, hW.l0, hW.l1, hW.k0, hW.k1, hW.w0, hW.w1, hW.sep, hW.a7, hW.a9, hW.a10, hW.a16, hW.a18, hW.a19, hW.a25⟩⟩
        · have d14 : D 14 = true := hn 14 (needs_b (by kernel_rfl))
          have e40 := hT.s14 d14
          have n1 : D 32 = false := by
            cases q : D 32 with
            | false => rfl
            | true => have := hcl 20 15 (hcl 32 20 q (needs_b (by kernel_rfl))) (needs_b (by kernel_rfl)); rw [hD] at this; cases this
          have c0 : w.cell? ⟨w0.heap.size, 1, none⟩ = some vK := (hW.blk.cell 1).trans (by simp [n1])
          refine wpOp_plain rfl rfl ?_
          go_simp
          exact ⟨upd u 41 (vK), by first | rfl | simp [upd, e40], ⟨fun h => hT.s0 h, fun h => hT.s1 h, fun h => hT.s2 h, fun h => hT.s3 h, fun h => hT.s4 h, fun h => hT.s5 h, fun h => hT.s6 h, fun h => hT.s8 h, fun h => hT.s12 h, fun h => hT.s13 h, fun h => hT.s14 h, fun _ => rfl, fun h => hT.s17 h, fun h => hT.s21 h, fun h => hT.s22 h, fun h => hT.s23 h, fun h => hT.s24 h, fun h => hT.s27 h, fun h => hT.s28 h, fun h => hT.s30 h, fun h => hT.s31 h, fun h => hT.s33 h, fun h => hT.s34 h⟩, ⟨hW.blk, hW.bel, hW.l0, hW.l1, hW.k0, hW.k1, hW.w0, hW.w1, hW.sep, hW.a7, hW.a9, hW.a10, hW.a16, hW.a18, hW.a19, hW.a25⟩⟩
        · refine wpOp_plain rfl rfl ?_
          go_simp
          have hb2 : Below w.heap.size w (w.alloc (.cells #[] 5)) := (Below.refl _ _).alloc (Nat.le_refl _) _
          have hW := hW.below hb2
          exact ⟨upd u 42 (.slice (some ⟨w.heap.size, 0, none⟩) 0 0), rfl, ⟨fun h => hT.s0 h, fun h => hT.s1 h, fun h => hT.s2 h, fun h => hT.s3 h, fun h => hT.s4 h, fun h => hT.s5 h, fun h => hT.s6 h, fun h => hT.s8 h, fun h => hT.s12 h, fun h => hT.s13 h, fun h => hT.s14 h, fun h => hT.s15 h, fun h => hT.s17 h, fun h => hT.s21 h, fun h => hT.s22 h, fun h => hT.s23 h, fun h => hT.s24 h, fun h => hT.s27 h, fun h => hT.s28 h, fun h => hT.s30 h, fun h => hT.s31 h, fun h => hT.s33 h, fun h => hT.s34 h⟩, ⟨hW.blk, hW.bel, hW.l0, hW.l1, hW.k0, hW.k1, hW.w0, hW.w1, hW.sep, hW.a7, hW.a9, hW.a10, (fun _ => ⟨_, rfl⟩), hW.a18, hW.a19, hW.a25⟩⟩
        · refine wpOp_plain rfl rfl ?_
          go_simp
          exact ⟨upd u 43 (.slice ta 64 tc), rfl, ⟨fun h => hT.s0 h, fun h => hT.s1 h, fun h => hT.s2 h, fun h => hT.s3 h, fun h => hT.s4 h, fun h => hT.s5 h, fun h => hT.s6 h, fun h => hT.s8 h, fun h => hT.s12 h, fun h => hT.s13 h, fun h => hT.s14 h, fun h => hT.s15 h, fun _ => rfl, fun h => hT.s21 h, fun h => hT.s22 h, fun h => hT.s23 h, fun h => hT.s24 h, fun h => hT.s27 h, fun h => hT.s28 h, fun h => hT.s30 h, fun h => hT.s31 h, fun h => hT.s33 h, fun h => hT.s34 h⟩, ⟨hW.blk, hW.bel, hW.l0, hW.l1, hW.k0, hW.k1, hW.w0, hW.w1, hW.sep, hW.a7, hW.a9, hW.a10, hW.a16, hW.a18, hW.a19, hW.a25⟩⟩
        · have d16 : D 16 = true := hn 16 (needs_b (by kernel_rfl))
          have d17 : D 17 = true := hn 17 (needs_b (by kernel_rfl))
          obtain ⟨g, e42⟩ := hW.a16 d16
          have e43 := hT.s17 d17
          refine wpOp_step rfl rfl (step_append_new rfl (.tmp 42) (.tmp 43) rfl g e42 ta tc e43 p HP.out (HS.out.below hW.bel (Nat.le_refl _)) ?_)
          intro v2 w2 hx hb2
          have hsz := hW.bel.size
          have hW := hW.below hb2
          exact ⟨upd u 44 v2, rfl, ⟨fun h => hT.s0 h, fun h => hT.s1 h, fun h => hT.s2 h, fun h => hT.s3 h, fun h => hT.s4 h, fun h => hT.s5 h, fun h => hT.s6 h, fun h => hT.s8 h, fun h => hT.s12 h, fun h => hT.s13 h, fun h => hT.s14 h, fun h => hT.s15 h, fun h => hT.s17 h, fun h => hT.s21 h, fun h => hT.s22 h, fun h => hT.s23 h, fun h => hT.s24 h, fun h => hT.s27 h, fun h => hT.s28 h, fun h => hT.s30 h, fun h => hT.s31 h, fun h => hT.s33 h, fun h => hT.s34 h⟩, ⟨hW.blk, hW.bel, hW.l0, hW.l1, hW.k0, hW.k1, hW.w0, hW.w1, hW.sep, hW.a7, hW.a9, hW.a10, hW.a16, (fun _ => hx.base hsz), (fun q _ => (by have := hcl 19 18 q (needs_b (by kernel_rfl)); rw [hD] at this; cases this)), hW.a25⟩⟩
        · have d18 : D 18 = true := hn 18 (needs_b (by kernel_rfl))
          obtain ⟨xa, xn, xc, e44⟩ := (hW.a18 d18).sl.val
          refine wpOp_plain rfl rfl ?_
          go_simp
          have hb2 : Below w.heap.size w (w.alloc (.cells #[.slice xa xn xc] 29)) := (Below.refl _ _).alloc (Nat.le_refl _) _
          have kb := Blk.new w 29 #[.slice xa xn xc]
          have hW := hW.below hb2
          exact ⟨upd u 45 (.slice (some ⟨w.heap.size, 0, none⟩) 1 1), by first | rfl | simp [upd, e44], ⟨fun h => hT.s0 h, fun h => hT.s1 h, fun h => hT.s2 h, fun h => hT.s3 h, fun h => hT.s4 h, fun h => hT.s5 h, fun h => hT.s6 h, fun h => hT.s8 h, fun h => hT.s12 h, fun h => hT.s13 h, fun h => hT.s14 h, fun h => hT.s15 h, fun h => hT.s17 h, fun h => hT.s21 h, fun h => hT.s22 h, fun h => hT.s23 h, fun h => hT.s24 h, fun h => hT.s27 h, fun h => hT.s28 h, fun h => hT.s30 h, fun h => hT.s31 h, fun h => hT.s33 h, fun h => hT.s34 h⟩, ⟨hW.blk, hW.bel, hW.l0, hW.l1, hW.k0, hW.k1, hW.w0, hW.w1, hW.sep, hW.a7, hW.a9, hW.a10, hW.a16, hW.a18, (fun _ _ => ⟨w.heap.size, rfl, by show Blk _ _ _ #[u 44]; rw [e44]; exact kb⟩), hW.a25⟩⟩
        · have d15 : D 15 = true := hn 15 (needs_b (by kernel_rfl))
          have d19 : D 19 = true := hn 19 (needs_b (by kernel_rfl))
          have d18 : D 18 = true := hn 18 (needs_b (by kernel_rfl))
          have d11 : D 11 = true := hcl 18 11 d18 (needs_b (by kernel_rfl))
          have e41 := hT.s15 d15
          obtain ⟨b, e45, kb⟩ := hW.a19 d19 hD
          have hOL := hW.k0 hD
          have n32 : D 32 = false := by
            cases q : D 32 with
            | false => rfl
            | true => have := hcl 32 20 q (needs_b (by kernel_rfl)); rw [hD] at this; cases this
          refine wpOp_step rfl rfl (step_append_ob2 rfl (.tmp 41) (.tmp 45) rfl w0.heap.size vK X e41 hOL b 1 e45 (u 44) (kb.cell 0) p (hW.a18 d18) (by have := hX; omega) hW.bel.size ?_)
          intro v2 w2 hx hb2 hg2 hq2
          have ho := Only.of_grownO hg2
          have typ : ∀ g ∈ vK.ownBlock.toList, ∃ cur, Blk w g 29 cur := fun g hg => by
            obtain ⟨vs, h1, _⟩ := hOL
            exact owns_blk h1 (by simpa using hg)
          have h8 : ∀ g ∈ vK.ownBlock.toList, ∀ cur, ¬ Blk w g 5 cur := fun g hg cur e => by
            obtain ⟨cur2, k2⟩ := typ g hg
            exact Blk.ne_ e k2 (by decide) rfl
          have hbo : ∀ g ∈ vK.ownBlock.toList, ∀ cur, ¬ Blk w g 4 cur := fun g hg cur e => by
            obtain ⟨cur2, k2⟩ := typ g hg
            exact Blk.ne_ e k2 (by decide) rfl
          have hyn : w0.heap.size ∉ vK.ownBlock.toList := fun hm => by
            obtain ⟨cur2, k2⟩ := typ _ hm
            exact Blk.ne_ hW.blk k2 (by decide) rfl
          have hsp : ∀ g, (u 37).ownBlock = some g → g ∉ vK.ownBlock.toList := fun g hg hm => hW.sep g (by rw [d11]; exact hg) (by rw [hD]; simpa using hm)
          have hws : ∀ (v : Value) n xs, w.ownsRow w0.heap.size 4 1 v n xs → w2.ownsRow w0.heap.size 4 1 v n xs := fun v n xs q => ho.owns q fun g hg hm => by
            obtain ⟨cur, k⟩ := owns_blk q hg
            exact hbo g hm cur k
          have hsep2 : ∀ g, (cond (D 11) (u 37) vL).ownBlock = some g → v2.ownBlock ≠ some g := fun g h2 h1 => by
            rw [d11] at h2
            rcases hq2 g h1 with h3 | h3
            · exact hW.sep g (by rw [d11]; exact h2) (by rw [hD]; exact h3)
            · obtain ⟨vs, h5, _⟩ := hW.l1 d11
              obtain ⟨cur, k⟩ := owns_blk h5 h2
              have := k.lt
              omega
          exact ⟨upd u 46 v2, rfl, ⟨fun h => hT.s0 h, fun h => hT.s1 h, fun h => hT.s2 h, fun h => hT.s3 h, fun h => hT.s4 h, fun h => hT.s5 h, fun h => hT.s6 h, fun h => hT.s8 h, fun h => hT.s12 h, fun h => hT.s13 h, fun h => hT.s14 h, fun h => hT.s15 h, fun h => hT.s17 h, fun h => hT.s21 h, fun h => hT.s22 h, fun h => hT.s23 h, fun h => hT.s24 h, fun h => hT.s27 h, fun h => hT.s28 h, fun h => hT.s30 h, fun h => hT.s31 h, fun h => hT.s33 h, fun h => hT.s34 h⟩, ⟨(by have h := ho.blk hW.blk hyn; rw [n32] at h; show Blk _ _ _ #[_, cond (D 32) v2 vK, _, _, _, _]; rw [n32]; exact h), (hW.bel.trans hb2), (fun q => by rw [show D 11 = false from q] at d11; cases d11), (fun q => (hW.l1 q).keepR ho h8 hsp), (fun q => by cases q), (fun _ => hx), (fun q => hws _ _ _ (hW.w0 q)), (fun q => hws _ _ _ (hW.w1 q)), (hsep2), hW.a7, (fun q => (hW.a9 q).only ho h8), (fun _ q => by rw [show D 11 = false from q] at d11; cases d11), hW.a16, (fun q => (hW.a18 q).only ho h8), (fun _ q => by cases q), (fun q r => by obtain ⟨b2, e2, k2⟩ := hW.a25 q r; exact ⟨b2, e2, ho.blk k2 (fun hm => hbo _ hm _ k2)⟩)⟩⟩
        · refine wpOp_plain rfl rfl ?_
          go_simp
          exact ⟨upd u 47 (.pointer (some ⟨w0.heap.size, 0, none⟩)), rfl, ⟨fun h => hT.s0 h, fun h => hT.s1 h, fun h => hT.s2 h, fun h => hT.s3 h, fun h => hT.s4 h, fun h => hT.s5 h, fun h => hT.s6 h, fun h => hT.s8 h, fun h => hT.s12 h, fun h => hT.s13 h, fun h => hT.s14 h, fun h => hT.s15 h, fun h => hT.s17 h, fun _ => rfl, fun h => hT.s22 h, fun h => hT.s23 h, fun h => hT.s24 h, fun h => hT.s27 h, fun h => hT.s28 h, fun h => hT.s30 h, fun h => hT.s31 h, fun h => hT.s33 h, fun h => hT.s34 h⟩, ⟨hW.blk, hW.bel, hW.l0, hW.l1, hW.k0, hW.k1, hW.w0, hW.w1, hW.sep, hW.a7, hW.a9, hW.a10, hW.a16, hW.a18, hW.a19, hW.a25⟩⟩
        · have d21 : D 21 = true := hn 21 (needs_b (by kernel_rfl))
          have e47 := hT.s21 d21
          refine wpOp_plain rfl rfl ?_
          go_simp
          exact ⟨upd u 48 (.pointer (some ⟨w0.heap.size, 0, none⟩)), by first | rfl | simp [upd, e47], ⟨fun h => hT.s0 h, fun h => hT.s1 h, fun h => hT.s2 h, fun h => hT.s3 h, fun h => hT.s4 h, fun h => hT.s5 h, fun h => hT.s6 h, fun h => hT.s8 h, fun h => hT.s12 h, fun h => hT.s13 h, fun h => hT.s14 h, fun h => hT.s15 h, fun h => hT.s17 h, fun h => hT.s21 h, fun _ => rfl, fun h => hT.s23 h, fun h => hT.s24 h, fun h => hT.s27 h, fun h => hT.s28 h, fun h => hT.s30 h, fun h => hT.s31 h, fun h => hT.s33 h, fun h => hT.s34 h⟩, ⟨hW.blk, hW.bel, hW.l0, hW.l1, hW.k0, hW.k1, hW.w0, hW.w1, hW.sep, hW.a7, hW.a9, hW.a10, hW.a16, hW.a18, hW.a19, hW.a25⟩⟩
        · have d22 : D 22 = true := hn 22 (needs_b (by kernel_rfl))
          have e48 := hT.s22 d22
          refine wpOp_plain rfl rfl ?_
          go_simp
          exact ⟨upd u 49 (.pointer (some ⟨w0.heap.size, 2, none⟩)), by first | rfl | simp [upd, e48], ⟨fun h => hT.s0 h, fun h => hT.s1 h, fun h => hT.s2 h, fun h => hT.s3 h, fun h => hT.s4 h, fun h => hT.s5 h, fun h => hT.s6 h, fun h => hT.s8 h, fun h => hT.s12 h, fun h => hT.s13 h, fun h => hT.s14 h, fun h => hT.s15 h, fun h => hT.s17 h, fun h => hT.s21 h, fun h => hT.s22 h, fun _ => rfl, fun h => hT.s24 h, fun h => hT.s27 h, fun h => hT.s28 h, fun h => hT.s30 h, fun h => hT.s31 h, fun h => hT.s33 h, fun h => hT.s34 h⟩, ⟨hW.blk, hW.bel, hW.l0, hW.l1, hW.k0, hW.k1, hW.w0, hW.w1, hW.sep, hW.a7, hW.a9, hW.a10, hW.a16, hW.a18, hW.a19, hW.a25⟩⟩
        · have d23 : D 23 = true := hn 23 (needs_b (by kernel_rfl))
          have e49 := hT.s23 d23
          have n1 : D 35 = false := by
            cases q : D 35 with
            | false => rfl
            | true => have := hcl 26 24 (hcl 35 26 q (needs_b (by kernel_rfl))) (needs_b (by kernel_rfl)); rw [hD] at this; cases this
          have c0 : w.cell? ⟨w0.heap.size, 2, none⟩ = some vW := (hW.blk.cell 2).trans (by simp [n1])
          refine wpOp_plain rfl rfl ?_
          go_simp
          exact ⟨upd u 50 (vW), by first | rfl | simp [upd, e49], ⟨fun h => hT.s0 h, fun h => hT.s1 h, fun h => hT.s2 h, fun h => hT.s3 h, fun h => hT.s4 h, fun h => hT.s5 h, fun h => hT.s6 h, fun h => hT.s8 h, fun h => hT.s12 h, fun h => hT.s13 h, fun h => hT.s14 h, fun h => hT.s15 h, fun h => hT.s17 h, fun h => hT.s21 h, fun h => hT.s22 h, fun h => hT.s23 h, fun _ => rfl, fun h => hT.s27 h, fun h => hT.s28 h, fun h => hT.s30 h, fun h => hT.s31 h, fun h => hT.s33 h, fun h => hT.s34 h⟩, ⟨hW.blk, hW.bel, hW.l0, hW.l1, hW.k0, hW.k1, hW.w0, hW.w1, hW.sep, hW.a7, hW.a9, hW.a10, hW.a16, hW.a18, hW.a19, hW.a25⟩⟩
        · refine wpOp_plain rfl rfl ?_
          go_simp
          have hb2 : Below w.heap.size w (w.alloc (.cells #[.bool false] 4)) := (Below.refl _ _).alloc (Nat.le_refl _) _
          have kb := Blk.new w 4 #[.bool false]
          have hW := hW.below hb2
          exact ⟨upd u 51 (.slice (some ⟨w.heap.size, 0, none⟩) 1 1), rfl, ⟨fun h => hT.s0 h, fun h => hT.s1 h, fun h => hT.s2 h, fun h => hT.s3 h, fun h => hT.s4 h, fun h => hT.s5 h, fun h => hT.s6 h, fun h => hT.s8 h, fun h => hT.s12 h, fun h => hT.s13 h, fun h => hT.s14 h, fun h => hT.s15 h, fun h => hT.s17 h, fun h => hT.s21 h, fun h => hT.s22 h, fun h => hT.s23 h, fun h => hT.s24 h, fun h => hT.s27 h, fun h => hT.s28 h, fun h => hT.s30 h, fun h => hT.s31 h, fun h => hT.s33 h, fun h => hT.s34 h⟩, ⟨hW.blk, hW.bel, hW.l0, hW.l1, hW.k0, hW.k1, hW.w0, hW.w1, hW.sep, hW.a7, hW.a9, hW.a10, hW.a16, hW.a18, hW.a19, (fun _ _ => ⟨w.heap.size, rfl, kb⟩)⟩⟩
        · have d24 : D 24 = true := hn 24 (needs_b (by kernel_rfl))
          have d25 : D 25 = true := hn 25 (needs_b (by kernel_rfl))
          have e50 := hT.s24 d24
          obtain ⟨b, e51, kb⟩ := hW.a25 d25 hD
          have hOL := hW.w0 hD
          have n35 : D 35 = false := by
            cases q : D 35 with
            | false => rfl
            | true => have := hcl 35 26 q (needs_b (by kernel_rfl)); rw [hD] at this; cases this
          refine wpOp_step rfl rfl (step_append_false rfl (.tmp 50) (.tmp 51) rfl w0.heap.size vW k _ e50 hOL b e51 (kb.cell 0) (by omega) hW.bel.size ?_)
          intro v2 w2 hx hg2
          have ho := Only.of_grownO hg2
          have hb2 : Below w0.heap.size w w2 := (Below.refl _ _).grown hg2 hW.bel.size (fun k hk => (hOL.lt k hk).1)
          have typ : ∀ g ∈ vW.ownBlock.toList, ∃ cur, Blk w g 4 cur := fun g hg => owns_blk hOL (by simpa using hg)
          have h8 : ∀ g ∈ vW.ownBlock.toList, ∀ cur, ¬ Blk w g 5 cur ∧ ¬ Blk w g 29 cur := fun g hg cur => by
            obtain ⟨cur2, k2⟩ := typ g hg
            exact ⟨fun e => Blk.ne_ e k2 (by decide) rfl, fun e => Blk.ne_ e k2 (by decide) rfl⟩
          have hyn : w0.heap.size ∉ vW.ownBlock.toList := fun hm => by
            obtain ⟨cur2, k2⟩ := typ _ hm
            exact Blk.ne_ hW.blk k2 (by decide) rfl
          exact ⟨upd u 52 v2, rfl, ⟨fun h => hT.s0 h, fun h => hT.s1 h, fun h => hT.s2 h, fun h => hT.s3 h, fun h => hT.s4 h, fun h => hT.s5 h, fun h => hT.s6 h, fun h => hT.s8 h, fun h => hT.s12 h, fun h => hT.s13 h, fun h => hT.s14 h, fun h => hT.s15 h, fun h => hT.s17 h, fun h => hT.s21 h, fun h => hT.s22 h, fun h => hT.s23 h, fun h => hT.s24 h, fun h => hT.s27 h, fun h => hT.s28 h, fun h => hT.s30 h, fun h => hT.s31 h, fun h => hT.s33 h, fun h => hT.s34 h⟩, ⟨(by have h := ho.blk hW.blk hyn; rw [n35] at h; show Blk _ _ _ #[_, _, cond (D 35) v2 vW, _, _, _]; rw [n35]; exact h), (hW.bel.trans hb2), (fun q => (hW.l0 q).only ho h8), (fun q => (hW.l1 q).only ho h8), (fun q => (hW.k0 q).only ho h8), (fun q => (hW.k1 q).only ho h8), (fun q => by cases q), (fun _ => hx), hW.sep, hW.a7, (fun q => (hW.a9 q).only ho fun g hg cur => (h8 g hg cur).1), (fun q r => by obtain ⟨b2, e2, k2⟩ := hW.a10 q r; exact ⟨b2, e2, ho.blk k2 (fun hm => (h8 _ hm _).2 k2)⟩), hW.a16, (fun q => (hW.a18 q).only ho fun g hg cur => (h8 g hg cur).1), (fun q r => by obtain ⟨b2, e2, k2⟩ := hW.a19 q r; exact ⟨b2, e2, ho.blk k2 (fun hm => (h8 _ hm _).2 k2)⟩), (fun _ q => by cases q)⟩⟩
        · have d0 : D 0 = true := hn 0 (needs_b (by kernel_rfl))
          have e26 := hT.s0 d0
          refine wpOp_plain rfl rfl ?_
          go_simp
          exact ⟨upd u 53 (.pointer (some ⟨w0.heap.size, 0, none⟩)), by first | rfl | simp [upd, e26], ⟨fun h => hT.s0 h, fun h => hT.s1 h, fun h => hT.s2 h, fun h => hT.s3 h, fun h => hT.s4 h, fun h => hT.s5 h, fun h => hT.s6 h, fun h => hT.s8 h, fun h => hT.s12 h, fun h => hT.s13 h, fun h => hT.s14 h, fun h => hT.s15 h, fun h => hT.s17 h, fun h => hT.s21 h, fun h => hT.s22 h, fun h => hT.s23 h, fun h => hT.s24 h, fun _ => rfl, fun h => hT.s28 h, fun h => hT.s30 h, fun h => hT.s31 h, fun h => hT.s33 h, fun h => hT.s34 h⟩, ⟨hW.blk, hW.bel, hW.l0, hW.l1, hW.k0, hW.k1, hW.w0, hW.w1, hW.sep, hW.a7, hW.a9, hW.a10, hW.a16, hW.a18, hW.a19, hW.a25⟩⟩
        · have d27 : D 27 = true := hn 27 (needs_b (by kernel_rfl))
          have e53 := hT.s27 d27
          refine wpOp_plain rfl rfl ?_
          go_simp
          exact ⟨upd u 54 (.pointer (some ⟨w0.heap.size, 0, none⟩)), by first | rfl | simp [upd, e53], ⟨fun h => hT.s0 h, fun h => hT.s1 h, fun h => hT.s2 h, fun h => hT.s3 h, fun h => hT.s4 h, fun h => hT.s5 h, fun h => hT.s6 h, fun h => hT.s8 h, fun h => hT.s12 h, fun h => hT.s13 h, fun h => hT.s14 h, fun h => hT.s15 h, fun h => hT.s17 h, fun h => hT.s21 h, fun h => hT.s22 h, fun h => hT.s23 h, fun h => hT.s24 h, fun h => hT.s27 h, fun _ => rfl, fun h => hT.s30 h, fun h => hT.s31 h, fun h => hT.s33 h, fun h => hT.s34 h⟩, ⟨hW.blk, hW.bel, hW.l0, hW.l1, hW.k0, hW.k1, hW.w0, hW.w1, hW.sep, hW.a7, hW.a9, hW.a10, hW.a16, hW.a18, hW.a19, hW.a25⟩⟩
        · have d28 : D 28 = true := hn 28 (needs_b (by kernel_rfl))
          have d11 : D 11 = true := hn 11 (needs_b (by kernel_rfl))
          have e54 := hT.s28 d28
          obtain ⟨xa, xn, xc, e37⟩ : ∃ a n c, u 37 = Value.slice a n c := by obtain ⟨a, c, e⟩ := (hW.l1 d11).val; exact ⟨_, _, _, e⟩
          have c0 : w.cell? ⟨w0.heap.size, 0, none⟩ = some vL := (hW.blk.cell 0).trans (by simp [hD])
          have f0 := hW.blk.frozen 0
          have ho : Only [w0.heap.size] w (w.setCell ⟨w0.heap.size, 0, none⟩ (.slice xa xn xc)) := Only.setCell _ _ (by simp) _
          have hbk := hW.blk.set_ 0 (.slice xa xn xc)
          have h8 : ∀ g ∈ [w0.heap.size], ∀ cur, ¬ Blk w g 5 cur ∧ ¬ Blk w g 29 cur := fun g hg cur => by
            obtain rfl : g = w0.heap.size := by simpa using hg
            exact ⟨fun e => Blk.ne_ e hW.blk (by decide) rfl, fun e => Blk.ne_ e hW.blk (by decide) rfl⟩
          have hws : ∀ (v : Value) n xs, w.ownsRow w0.heap.size 4 1 v n xs → (w.setCell ⟨w0.heap.size, 0, none⟩ (.slice xa xn xc)).ownsRow w0.heap.size 4 1 v n xs := fun v n xs q => ho.owns q fun g hg hm => by
            obtain ⟨cur, k⟩ := owns_blk q hg
            obtain rfl : g = w0.heap.size := by simpa using hm
            exact Blk.ne_ k hW.blk (by decide) rfl
          refine wpOp_plain rfl rfl ?_
          go_simp
          exact ⟨u, by first | rfl | simp [e54, e37], ⟨fun h => hT.s0 h, fun h => hT.s1 h, fun h => hT.s2 h, fun h => hT.s3 h, fun h => hT.s4 h, fun h => hT.s5 h, fun h => hT.s6 h, fun h => hT.s8 h, fun h => hT.s12 h, fun h => hT.s13 h, fun h => hT.s14 h, fun h => hT.s15 h, fun h => hT.s17 h, fun h => hT.s21 h, fun h => hT.s22 h, fun h => hT.s23 h, fun h => hT.s24 h, fun h => hT.s27 h, fun h => hT.s28 h, fun h => hT.s30 h, fun h => hT.s31 h, fun h => hT.s33 h, fun h => hT.s34 h⟩, ⟨(by show Blk _ _ _ #[u 37, cond (D 32) (u 46) vK, cond (D 35) (u 52) vW, .int .i64 (-1), .bool false, .int .i64 0]; rw [e37]; exact hbk), (Only.belowOf hW.bel ho hW.bel.size (by simp)), (fun q => (hW.l0 q).only ho h8), (fun q => (hW.l1 q).only ho h8), (fun q => (hW.k0 q).only ho h8), (fun q => (hW.k1 q).only ho h8), (fun q => hws _ _ _ (hW.w0 q)), (fun q => hws _ _ _ (hW.w1 q)), hW.sep, hW.a7, (fun q => (hW.a9 q).only ho fun g hg cur => (h8 g hg cur).1), (fun q r => by obtain ⟨b2, e2, k2⟩ := hW.a10 q r; exact ⟨b2, e2, ho.blk k2 (fun hm => (h8 _ hm _).2 k2)⟩), hW.a16, (fun q => (hW.a18 q).only ho fun g hg cur => (h8 g hg cur).1), (fun q r => by obtain ⟨b2, e2, k2⟩ := hW.a19 q r; exact ⟨b2, e2, ho.blk k2 (fun hm => (h8 _ hm _).2 k2)⟩), (fun q r => by obtain ⟨b2, e2, k2⟩ := hW.a25 q r; exact ⟨b2, e2, ho.blk k2 (fun hm => by obtain rfl : b2 = w0.heap.size := (by simpa using hm); exact Blk.ne_ k2 hW.blk (by decide) rfl)⟩)⟩⟩
        · have d1 : D 1 = true := hn 1 (needs_b (by kernel_rfl))
          have e27 := hT.s1 d1
          refine wpOp_plain rfl rfl ?_
          go_simp
          exact ⟨upd u 55 (.pointer (some ⟨w0.heap.size, 0, none⟩)), by first | rfl | simp [upd, e27], ⟨fun h => hT.s0 h, fun h => hT.s1 h, fun h => hT.s2 h, fun h => hT.s3 h, fun h => hT.s4 h, fun h => hT.s5 h, fun h => hT.s6 h, fun h => hT.s8 h, fun h => hT.s12 h, fun h => hT.s13 h, fun h => hT.s14 h, fun h => hT.s15 h, fun h => hT.s17 h, fun h => hT.s21 h, fun h => hT.s22 h, fun h => hT.s23 h, fun h => hT.s24 h, fun h => hT.s27 h, fun h => hT.s28 h, fun _ => rfl, fun h => hT.s31 h, fun h => hT.s33 h, fun h => hT.s34 h⟩, ⟨hW.blk, hW.bel, hW.l0, hW.l1, hW.k0, hW.k1, hW.w0, hW.w1, hW.sep, hW.a7, hW.a9, hW.a10, hW.a16, hW.a18, hW.a19, hW.a25⟩⟩
        · have d30 : D 30 = true := hn 30 (needs_b (by kernel_rfl))
          have e55 := hT.s30 d30
          refine wpOp_plain rfl rfl ?_
          go_simp
          exact ⟨upd u 56 (.pointer (some ⟨w0.heap.size, 1, none⟩)), by first | rfl | simp [upd, e55], ⟨fun h => hT.s0 h, fun h => hT.s1 h, fun h => hT.s2 h, fun h => hT.s3 h, fun h => hT.s4 h, fun h => hT.s5 h, fun h => hT.s6 h, fun h => hT.s8 h, fun h => hT.s12 h, fun h => hT.s13 h, fun h => hT.s14 h, fun h => hT.s15 h, fun h => hT.s17 h, fun h => hT.s21 h, fun h => hT.s22 h, fun h => hT.s23 h, fun h => hT.s24 h, fun h => hT.s27 h, fun h => hT.s28 h, fun h => hT.s30 h, fun _ => rfl, fun h => hT.s33 h, fun h => hT.s34 h⟩, ⟨hW.blk, hW.bel, hW.l0, hW.l1, hW.k0, hW.k1, hW.w0, hW.w1, hW.sep, hW.a7, hW.a9, hW.a10, hW.a16, hW.a18, hW.a19, hW.a25⟩⟩
        · have d31 : D 31 = true := hn 31 (needs_b (by kernel_rfl))
          have d20 : D 20 = true := hn 20 (needs_b (by kernel_rfl))
          have e56 := hT.s31 d31
          obtain ⟨xa, xn, xc, e46⟩ : ∃ a n c, u 46 = Value.slice a n c := by obtain ⟨a, c, e⟩ := (hW.k1 d20).val; exact ⟨_, _, _, e⟩
          have c0 : w.cell? ⟨w0.heap.size, 1, none⟩ = some vK := (hW.blk.cell 1).trans (by simp [hD])
          have f0 := hW.blk.frozen 1
          have ho : Only [w0.heap.size] w (w.setCell ⟨w0.heap.size, 1, none⟩ (.slice xa xn xc)) := Only.setCell _ _ (by simp) _
          have hbk := hW.blk.set_ 1 (.slice xa xn xc)
          have h8 : ∀ g ∈ [w0.heap.size], ∀ cur, ¬ Blk w g 5 cur ∧ ¬ Blk w g 29 cur := fun g hg cur => by
            obtain rfl : g = w0.heap.size := by simpa using hg
            exact ⟨fun e => Blk.ne_ e hW.blk (by decide) rfl, fun e => Blk.ne_ e hW.blk (by decide) rfl⟩
          have hws : ∀ (v : Value) n xs, w.ownsRow w0.heap.size 4 1 v n xs → (w.setCell ⟨w0.heap.size, 1, none⟩ (.slice xa xn xc)).ownsRow w0.heap.size 4 1 v n xs := fun v n xs q => ho.owns q fun g hg hm => by
            obtain ⟨cur, k⟩ := owns_blk q hg
            obtain rfl : g = w0.heap.size := by simpa using hm
            exact Blk.ne_ k hW.blk (by decide) rfl
          refine wpOp_plain rfl rfl ?_
          go_simp
          exact ⟨u, by first | rfl | simp [e56, e46], ⟨fun h => hT.s0 h, fun h => hT.s1 h, fun h => hT.s2 h, fun h => hT.s3 h, fun h => hT.s4 h, fun h => hT.s5 h, fun h => hT.s6 h, fun h => hT.s8 h, fun h => hT.s12 h, fun h => hT.s13 h, fun h => hT.s14 h, fun h => hT.s15 h, fun h => hT.s17 h, fun h => hT.s21 h, fun h => hT.s22 h, fun h => hT.s23 h, fun h => hT.s24 h, fun h => hT.s27 h, fun h => hT.s28 h, fun h => hT.s30 h, fun h => hT.s31 h, fun h => hT.s33 h, fun h => hT.s34 h⟩, ⟨(by show Blk _ _ _ #[cond (D 29) (u 37) vL, u 46, cond (D 35) (u 52) vW, .int .i64 (-1), .bool false, .int .i64 0]; rw [e46]; exact hbk), (Only.belowOf hW.bel ho hW.bel.size (by simp)), (fun q => (hW.l0 q).only ho h8), (fun q => (hW.l1 q).only ho h8), (fun q => (hW.k0 q).only ho h8), (fun q => (hW.k1 q).only ho h8), (fun q => hws _ _ _ (hW.w0 q)), (fun q => hws _ _ _ (hW.w1 q)), hW.sep, hW.a7, (fun q => (hW.a9 q).only ho fun g hg cur => (h8 g hg cur).1), (fun q r => by obtain ⟨b2, e2, k2⟩ := hW.a10 q r; exact ⟨b2, e2, ho.blk k2 (fun hm => (h8 _ hm _).2 k2)⟩), hW.a16, (fun q => (hW.a18 q).only ho fun g hg cur => (h8 g hg cur).1), (fun q r => by obtain ⟨b2, e2, k2⟩ := hW.a19 q r; exact ⟨b2, e2, ho.blk k2 (fun hm => (h8 _ hm _).2 k2)⟩), (fun q r => by obtain ⟨b2, e2, k2⟩ := hW.a25 q r; exact ⟨b2, e2, ho.blk k2 (fun hm => by obtain rfl : b2 = w0.heap.size := (by simpa using hm); exact Blk.ne_ k2 hW.blk (by decide) rfl)⟩)⟩⟩
        · have d2 : D 2 = true := hn 2 (needs_b (by kernel_rfl))
          have e28 := hT.s2 d2
          refine wpOp_plain rfl rfl ?_
          go_simp
          exact ⟨upd u 57 (.pointer (some ⟨w0.heap.size, 0, none⟩)), by first | rfl | simp [upd, e28], ⟨fun h => hT.s0 h, fun h => hT.s1 h, fun h => hT.s2 h, fun h => hT.s3 h, fun h => hT.s4 h, fun h => hT.s5 h, fun h => hT.s6 h, fun h => hT.s8 h, fun h => hT.s12 h, fun h => hT.s13 h, fun h => hT.s14 h, fun h => hT.s15 h, fun h => hT.s17 h, fun h => hT.s21 h, fun h => hT.s22 h, fun h => hT.s23 h, fun h => hT.s24 h, fun h => hT.s27 h, fun h => hT.s28 h, fun h => hT.s30 h, fun h => hT.s31 h, fun _ => rfl, fun h => hT.s34 h⟩, ⟨hW.blk, hW.bel, hW.l0, hW.l1, hW.k0, hW.k1, hW.w0, hW.w1, hW.sep, hW.a7, hW.a9, hW.a10, hW.a16, hW.a18, hW.a19, hW.a25⟩⟩
        · have d33 : D 33 = true := hn 33 (needs_b (by kernel_rfl))
          have e57 := hT.s33 d33
          refine wpOp_plain rfl rfl ?_
          go_simp
          exact ⟨upd u 58 (.pointer (some ⟨w0.heap.size, 2, none⟩)), by first | rfl | simp [upd, e57], ⟨fun h => hT.s0 h, fun h => hT.s1 h, fun h => hT.s2 h, fun h => hT.s3 h, fun h => hT.s4 h, fun h => hT.s5 h, fun h => hT.s6 h, fun h => hT.s8 h, fun h => hT.s12 h, fun h => hT.s13 h, fun h => hT.s14 h, fun h => hT.s15 h, fun h => hT.s17 h, fun h => hT.s21 h, fun h => hT.s22 h, fun h => hT.s23 h, fun h => hT.s24 h, fun h => hT.s27 h, fun h => hT.s28 h, fun h => hT.s30 h, fun h => hT.s31 h, fun h => hT.s33 h, fun _ => rfl⟩, ⟨hW.blk, hW.bel, hW.l0, hW.l1, hW.k0, hW.k1, hW.w0, hW.w1, hW.sep, hW.a7, hW.a9, hW.a10, hW.a16, hW.a18, hW.a19, hW.a25⟩⟩
        · have d34 : D 34 = true := hn 34 (needs_b (by kernel_rfl))
          have d26 : D 26 = true := hn 26 (needs_b (by kernel_rfl))
          have e58 := hT.s34 d34
          obtain ⟨xa, xn, xc, e52⟩ := (Sl.of_owns (hW.w1 d26)).val
          have c0 : w.cell? ⟨w0.heap.size, 2, none⟩ = some vW := (hW.blk.cell 2).trans (by simp [hD])
          have f0 := hW.blk.frozen 2
          have ho : Only [w0.heap.size] w (w.setCell ⟨w0.heap.size, 2, none⟩ (.slice xa xn xc)) := Only.setCell _ _ (by simp) _
          have hbk := hW.blk.set_ 2 (.slice xa xn xc)
          have h8 : ∀ g ∈ [w0.heap.size], ∀ cur, ¬ Blk w g 5 cur ∧ ¬ Blk w g 29 cur := fun g hg cur => by
            obtain rfl : g = w0.heap.size := by simpa using hg
            exact ⟨fun e => Blk.ne_ e hW.blk (by decide) rfl, fun e => Blk.ne_ e hW.blk (by decide) rfl⟩
          have hws : ∀ (v : Value) n xs, w.ownsRow w0.heap.size 4 1 v n xs → (w.setCell ⟨w0.heap.size, 2, none⟩ (.slice xa xn xc)).ownsRow w0.heap.size 4 1 v n xs := fun v n xs q => ho.owns q fun g hg hm => by
            obtain ⟨cur, k⟩ := owns_blk q hg
            obtain rfl : g = w0.heap.size := by simpa using hm
            exact Blk.ne_ k hW.blk (by decide) rfl
          refine wpOp_plain rfl rfl ?_
          go_simp
          exact ⟨u, by first | rfl | simp [e58, e52], ⟨fun h => hT.s0 h, fun h => hT.s1 h, fun h => hT.s2 h, fun h => hT.s3 h, fun h => hT.s4 h, fun h => hT.s5 h, fun h => hT.s6 h, fun h => hT.s8 h, fun h => hT.s12 h, fun h => hT.s13 h, fun h => hT.s14 h, fun h => hT.s15 h, fun h => hT.s17 h, fun h => hT.s21 h, fun h => hT.s22 h, fun h => hT.s23 h, fun h => hT.s24 h, fun h => hT.s27 h, fun h => hT.s28 h, fun h => hT.s30 h, fun h => hT.s31 h, fun h => hT.s33 h, fun h => hT.s34 h⟩, ⟨(by show Blk _ _ _ #[cond (D 29) (u 37) vL, cond (D 32) (u 46) vK, u 52, .int .i64 (-1), .bool false, .int .i64 0]; rw [e52]; exact hbk), (Only.belowOf hW.bel ho hW.bel.size (by simp)), (fun q => (hW.l0 q).only ho h8), (fun q => (hW.l1 q).only ho h8), (fun q => (hW.k0 q).only ho h8), (fun q => (hW.k1 q).only ho h8), (fun q => hws _ _ _ (hW.w0 q)), (fun q => hws _ _ _ (hW.w1 q)), hW.sep, hW.a7, (fun q => (hW.a9 q).only ho fun g hg cur => (h8 g hg cur).1), (fun q r => by obtain ⟨b2, e2, k2⟩ := hW.a10 q r; exact ⟨b2, e2, ho.blk k2 (fun hm => (h8 _ hm _).2 k2)⟩), hW.a16, (fun q => (hW.a18 q).only ho fun g hg cur => (h8 g hg cur).1), (fun q r => by obtain ⟨b2, e2, k2⟩ := hW.a19 q r; exact ⟨b2, e2, ho.blk k2 (fun hm => (h8 _ hm _).2 k2)⟩), (fun q r => by obtain ⟨b2, e2, k2⟩ := hW.a25 q r; exact ⟨b2, e2, ho.blk k2 (fun hm => by obtain rfl : b2 = w0.heap.size := (by simpa using hm); exact Blk.ne_ k2 hW.blk (by decide) rfl)⟩)⟩⟩
      case fin =>
        intro D a w hI hall
        obtain ⟨u, rfl, hT, hW⟩ := hI
        have hbk := hW.blk
        rw [hall 29 (by decide), hall 32 (by decide), hall 35 (by decide)] at hbk
        have hl1 := hW.l1 (hall 11 (by decide))
        have hk1 := hW.k1 (hall 20 (by decide))
        have hw1 := hW.w1 (hall 26 (by decide))
        have hsp := hW.sep
        rw [hall 11 (by decide), hall 20 (by decide)] at hsp
        rw [ht] at hl1 hk1
        have hrep : List.replicate k (Value.bool false) ++ [.bool false] = List.replicate (k + 1) (.bool false) := by rw [List.replicate_succ']
        rw [hrep] at hw1
        have HF := Lib.hid (show Blk w w0.heap.size 87 #[u 37, u 46, u 52, .int .i64 (-1), .bool false, .int .i64 0] ∧ OBs w w0.heap.size (u 37) (pss.take (k + 1)) ∧ OBs w w0.heap.size (u 46) (pss.take (k + 1)) ∧ w.ownsRow w0.heap.size 4 1 (u 52) (k + 1) (List.replicate (k + 1) (.bool false)) ∧ (∀ g, (u 37).ownBlock = some g → (u 46).ownBlock ≠ some g) ∧ Below w0.heap.size w0 w from ⟨hbk, hl1, hk1, hw1, hsp, hW.bel⟩)
        clear hbk hl1 hk1 hw1 hsp hW hT hrep hall
        go_wp2
        exact ⟨⟨k + 1, u 37, u 46, u 52, hlt, by go_num, HF.out⟩, by simp [intOf]; omega⟩
    · obtain rfl : k = pss.length := by omega
      have hkI : ¬ (pss.length : Int) < (pss.length : Int) := by omega
      rw [List.take_length] at hL hK
      obtain ⟨gl, cl, rfl, g1, g2, r1⟩ := hL.trow h1
      obtain ⟨gk, ck, rfl, g3, g4, r2⟩ := hK.trow h1
      obtain ⟨gw, cw, rfl, g5, g6, r3⟩ := brow_own hW h1
      have hne : gl ≠ gk := fun e => hsep gl rfl (by rw [e]; rfl)
      have e1 : (ofD pss).l.length = pss.length := by simp [ofD]
      have HF := Lib.hid (show RDev wr w0.heap.size gl gk gw (ofD pss) from by
        refine ⟨⟨cl, ck, cw, by rw [e1]; exact g2, by rw [e1]; exact g4, by rw [e1]; exact g6, by rw [e1]; exact hY⟩, ?_, ?_, ?_, hne, by rw [e1]; exact ⟨h1, h2⟩, (fun q => by cases q), ?_⟩
        · rw [show (ofD pss).l.map Sec.now = pss from by simp [ofD, Function.comp_def]]; exact r1
        · rw [show (ofD pss).l.map Sec.kept = pss from by simp [ofD, Function.comp_def]]; exact r2
        · rw [show (ofD pss).l.map Sec.waits = List.replicate pss.length false from by simp [ofD, Function.comp_def, List.map_const']]; exact r3
        · intro s hs
          obtain ⟨p, hp, rfl⟩ := List.mem_map.1 hs
          have hh := HH.out p hp
          exact ⟨hh.1, hh.1, hh.2, hh.2, fun _ => rfl⟩)
      have HB := Lib.hid hb
      have HN := Lib.hid (show w0.heap.size ≤ w0.heap.size ∧ w0.heap.size ≤ gl ∧ w0.heap.size ≤ gk ∧ w0.heap.size ≤ gw from ⟨Nat.le_refl _, g1, g3, g5⟩)
      clear hY hL hK hW hsep hb r1 r2 r3
      go_wp2
      go_ret2
      exact ⟨_, rfl, gl, gk, gw, HN.out, HF.out, HB.out⟩

end Go.Proofs.Yteaimjfpmacgeaa