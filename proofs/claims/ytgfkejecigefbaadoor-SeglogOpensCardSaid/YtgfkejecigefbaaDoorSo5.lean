
/- The reference's device: Of (printed by gen_rvf.py). Steps of a script: how they read; a step's bytes, as many as a sector has. The reference's device: New. Spoil: every byte of texts of the call's own is turned. A device: what was synced is read behind a crash: the walk of the law DeviceStays. Step.Do: a step on both devices (printed by gen_do.py). Same: are two devices the same? (printed by gen_same.py) The reference's log: Room; both logs side by side. Conditions: none. Both logs side by side: whether they show the same. Conditions: none. -/
import Derived.Test.YtgfkejecigefbaaDoorSo4
import Derived.Test.YtgfkejecigefbaaDoorInv
import Derived.Test.YtgfkejecigefbaaDoorDvE
import Derived.Test.YtgfkejecigefbaaDoorMake
import Derived.Test.YtgfkejecigefbaaDoorSo1
import Derived.Test.YtgfkejecigefbaaDoorSo2
import Derived.Deep.RegionHeld3
import Derived.Deep.Cut
import Derived.Test.YtgfkejecigefbaaDoorEqInts
namespace Go.Proofs.YtgfkejecigefbaaDoor
open Go.RowKit
set_option linter.unusedVariables false

def ofD (pss : List (List Int)) : DSt := { l := pss.map fun p => { now := p, kept := p, waits := false }, dead := false, fused := false, burns := 0, changes := 0 }

theorem Only.of_grownO {w w' : World} {r : Option Nat} (h : w.grownBy w' r) : Only r.toList w w' := by
  cases r with
  | some g => exact Only.of_grown h
  | none => exact ⟨h.os, h.tape, h.output, h.size, fun k hk _ => h.block k hk (by simp)⟩
theorem OBs.keepR {ds : List Nat} {w w' : World} {base : Nat} {v : Value} {pss : List (List Int)} (h : OBs w base v pss) (ho : Only ds w w') (h8 : ∀ g ∈ ds, ∀ cur, ¬ Blk w g 5 cur) (hr : ∀ g, v.ownBlock = some g → g ∉ ds) : OBs w' base v pss := by
  obtain ⟨vs, h1, h2⟩ := h
  exact ⟨vs, ho.owns h1 hr, h2.mono fun u p q => q.only ho h8⟩
theorem run_append_block {w : World} {ty : TypeId} {base : Nat} {v : Value} {n : Nat} {xs : List Value} (hown : w.ownsRow base 26 1 v n xs) {b cap : Nat} {u : Value} (hc : w.cell? ⟨b, 0, none⟩ = some u) (h1 : u.oneCell' = true) (hn : n + 1 ≤ 5000000000000)
    {v' : Value} {w' : World} (hrun : (Builtin.append_ #[27, 27] ty #[v, .slice (some ⟨b, 0, none⟩) 1 cap]).run Tryd.prog w = .ok v' w') : ∀ g, v'.ownBlock = some g → v.ownBlock = some g ∨ w.heap.size ≤ g := by
  obtain ⟨i0, hi, hz0, hz1, hz2⟩ := info_parts infoTB
  have hnews : ∀ j y, [u][j]? = some y → w.cell? ((⟨b, 0, none⟩ : Addr).add j) = some y := fun j y hj => by
    match j, hj with
    | 0, hj => simp at hj; subst hj; exact hc
    | j + 1, hj => simp at hj
  obtain ⟨hxs, hv⟩ := hown
  rcases hv with ⟨rfl, rfl⟩ | ⟨g0, c0, cur, rfl, hg0, hh, hnc, hcm, hcur, htk⟩
  · obtain ⟨v2, w2, hr2, ho2, _⟩ := run_append_own (P := Tryd.prog) w w.heap.size 27 ty 26 i0 (.slice none 0 0) 1 24 Tryd.underlying27 hi hz0 hz1 hz2 rfl (by decide) (.slice none 0 0) 0 [] (World.ownsRow_nil _ _ _ _) ⟨b, 0, none⟩ 1 cap [u] rfl hnews (by simpa using h1) (by unfold maxLen; omega) (by omega) (Nat.le_refl _)
    rw [hrun] at hr2
    injection hr2 with e1 e2
    subst e1
    intro g hg
    right
    rcases ho2.2 with ⟨rfl, _⟩ | ⟨g1, c1, cur1, rfl, h3, _⟩
    · cases hg
    · cases hg; exact h3
  · by_cases hroom : n + 1 ≤ c0
    · have k : Blk w g0 26 cur := hh
      have hr2 := run_append_room_cells (P := Tryd.prog) w 27 ty 26 i0 Tryd.underlying27 hi g0 0 n c0 ⟨b, 0, none⟩ 1 cap [u] (by rw [hz1]; rfl) hnews (by simpa using h1) hroom
        (fun j hj => by
          rw [hz1, k.cell]
          have hj0 : j = 0 := by simpa using hj
          subst hj0
          rw [Array.getElem?_eq_getElem (by omega)]; rfl) (fun j hj => k.frozen _)
      rw [hrun] at hr2
      injection hr2 with e1 e2
      subst e1
      intro g hg
      exact Or.inl hg
    · obtain ⟨v2, w2, hr2, ho2, _⟩ := run_append_arg_grows (P := Tryd.prog) w 27 ty 26 i0 (.slice none 0 0) 1 24 Tryd.underlying27 hi hz0 hz1 hz2 rfl (by decide) ⟨g0, 0, none⟩ n c0 xs hxs (fun j y hj => by
        rw [add_plain0, Nat.zero_add]
        have k : Blk w g0 26 cur := hh
        rw [k.cell, ← Array.getElem?_toList]
        rw [← htk, List.getElem?_take] at hj
        split at hj
        · exact hj
        · cases hj) ⟨b, 0, none⟩ 1 cap [u] rfl hnews (by omega) (by unfold maxLen; omega) (by omega)
      rw [hrun] at hr2
      injection hr2 with e1 e2
      subst e1
      intro g hg
      right
      rcases ho2.2 with ⟨rfl, _⟩ | ⟨g1, c1, cur1, rfl, h3, _⟩
      · cases hg
      · cases hg; exact h3
theorem step_append_ob2 {w : World} {ops : Array Oper} {o : Oper} {a : Act} {K : Act → World → Prop} {Q : Exit → Act → World → Prop} {E : Prop} (hgd : o.guard = none) (s x : Operand)
    (ho : o.op = .call { callee := .builtin .append, args := #[s, x], argTypes := #[27, 27] })
    (base : Nat) (v : Value) (pss : List (List Int)) (hs : a.eval s = v) (hown : OBs w base v pss)
    (b cap : Nat) (hx : a.eval x = .slice (some ⟨b, 0, none⟩) 1 cap) (u : Value) (hc : w.cell? ⟨b, 0, none⟩ = some u) (p : List Int) (hu : OB w base u p)
    (h63 : pss.length + 1 ≤ 5000000000000) (hbase : base ≤ w.heap.size)
    (h : ∀ v' w', OBs w' base v' (pss ++ [p]) → Below base w w' → w.grownBy w' v.ownBlock → (∀ g, v'.ownBlock = some g → v.ownBlock = some g ∨ w.heap.size ≤ g) → K (a.put o.dst v') w') : if Region.wanted o (yielded ops a.tmps) = true then Oper.wp Tryd.prog o a w K Q else E := by
  obtain ⟨v', w', hrun, q1, q2, q3⟩ := run_append_ob (ty := o.type) base v pss hown b cap u hc p hu h63 hbase
  have h1 : u.oneCell' = true := by obtain ⟨ua, un, uc, rfl⟩ := hu.sl.val; rfl
  obtain ⟨vs, hvs, _⟩ := hown
  have q4 := run_append_block hvs hc h1 h63 hrun
  have hw : Region.wanted o (yielded ops a.tmps) = true := by simp [Region.wanted, hgd]
  rw [if_pos hw]
  unfold Oper.wp
  simp [execOp, ho, resolve, invoke, builtin, hs, hx, hrun, Result.andThen]
  exact h v' w' q1 q2 q3 q4
theorem OBs.trow {w : World} {base : Nat} {v : Value} {pss : List (List Int)} (h : OBs w base v pss) (hp : 1 ≤ pss.length) : ∃ gl cl, v = .slice (some ⟨gl, 0, none⟩) pss.length cl ∧ base ≤ gl ∧ (pss.length ≤ cl ∧ cl ≤ 9223372036854775807) ∧ TRow w gl pss := by
  obtain ⟨vs, h1, h2⟩ := h
  rcases h1.2 with ⟨_, e⟩ | ⟨g, c, cur, rfl, hg, hh, hn, hm, hc, ht⟩
  · omega
  · refine ⟨g, c, rfl, hg, ⟨hn, by unfold maxLen at hm; exact hm⟩, cur, hh, fun i bs hi => ?_⟩
    have hil : i < pss.length := (List.getElem?_eq_some_iff.1 hi).1
    have hiv : i < vs.length := by rw [h2.len]; exact hil
    have e : cur[i]? = some vs[i] := by
      rw [← Array.getElem?_toList, ← List.getElem?_eq_getElem hiv, ← ht, List.getElem?_take]
      rw [if_pos (by omega)]
    exact ⟨vs[i], e, (h2.at i _ _ (List.getElem?_eq_getElem hiv) hi).base (Nat.zero_le _)⟩
theorem brow_own {w : World} {base : Nat} {v : Value} {n : Nat} (h1 : w.ownsRow base 4 1 v n (List.replicate n (.bool false))) (hp : 1 ≤ n) : ∃ gl cl, v = .slice (some ⟨gl, 0, none⟩) n cl ∧ base ≤ gl ∧ (n ≤ cl ∧ cl ≤ 9223372036854775807) ∧ BRow w gl (List.replicate n false) := by
  rcases h1.2 with ⟨_, e⟩ | ⟨g, c, cur, rfl, hg, hh, hn, hm, hc, ht⟩
  · omega
  · refine ⟨g, c, rfl, hg, ⟨hn, by unfold maxLen at hm; exact hm⟩, cur, hh, fun i b hi => ?_⟩
    rw [List.getElem?_replicate] at hi
    split at hi
    · cases hi
      rename_i hil
      have e : (List.replicate n (Value.bool false))[i]? = some (.bool false) := by rw [List.getElem?_replicate, if_pos hil]
      rw [← ht, List.getElem?_take, if_pos (by omega), Array.getElem?_toList] at e
      exact e
    · cases hi
theorem infoBoolR : (Tryd.prog.info? 4).map (fun i => (i.zero, i.size, i.bytes)) = some (some (.bool false), 1, 1) := by kernel_rfl
/-- An append to an empty literal without room: a new block. -/
theorem run_append_new (w : World) (ty : TypeId) (g : Nat) (ta : Option Addr) (tc : Nat) (p : List Int) (hp : p.length = 64) (hs : Sl w (.slice ta 64 tc) (p.map (Value.int .u8))) :
    ∃ v' w', (Builtin.append_ #[26, 26] ty #[.slice (some ⟨g, 0, none⟩) 0 0, .slice ta 64 tc]).run Tryd.prog w = .ok v' w' ∧ OB w' w.heap.size v' p ∧ Below w.heap.size w w' := by
  obtain ⟨i0, hi, hz0, hz1, hz2⟩ := info_parts info8c
  obtain ⟨b, off, rfl, hb, hc⟩ := hs.addr (by rw [List.length_map]; omega)
  obtain ⟨v', w', h1, h2, h3⟩ := run_append_arg_grows (P := Tryd.prog) w 26 ty 5 i0 (.int .u8 0) 1 1 Tryd.underlying26 hi hz0 hz1 hz2 rfl (by decide) ⟨g, 0, none⟩ 0 0 [] rfl (fun j u hj => by simp at hj) ⟨b, off, none⟩ 64 tc (p.map (Value.int .u8)) (by simp [hp]) (fun j u hj => by rw [add_plain0]; exact hc j u hj) (by omega) (by unfold maxLen; omega) (by omega)
  refine ⟨v', w', h1, ?_, (Below.refl _ _).grown h3 (Nat.le_refl _) (fun k hk => by cases hk)⟩
  unfold OB
  rw [hp]
  simpa using h2
theorem step_append_new {w : World} {ops : Array Oper} {o : Oper} {a : Act} {K : Act → World → Prop} {Q : Exit → Act → World → Prop} {E : Prop} (hgd : o.guard = none) (s x : Operand)
    (ho : o.op = .call { callee := .builtin .append, args := #[s, x], argTypes := #[26, 26] })
    (g : Nat) (hs : a.eval s = .slice (some ⟨g, 0, none⟩) 0 0) (ta : Option Addr) (tc : Nat) (hx : a.eval x = .slice ta 64 tc) (p : List Int) (hp : p.length = 64) (hu : Sl w (.slice ta 64 tc) (p.map (Value.int .u8)))
    (h : ∀ v' w', OB w' w.heap.size v' p → Below w.heap.size w w' → K (a.put o.dst v') w') : if Region.wanted o (yielded ops a.tmps) = true then Oper.wp Tryd.prog o a w K Q else E := by
  obtain ⟨v', w', hrun, q1, q2⟩ := run_append_new w o.type g ta tc p hp hu
  have hw : Region.wanted o (yielded ops a.tmps) = true := by simp [Region.wanted, hgd]
  rw [if_pos hw]
  unfold Oper.wp
  simp [execOp, ho, resolve, invoke, builtin, hs, hx, hrun, Result.andThen]
  exact h v' w' q1 q2
theorem step_append_false {w : World} {ops : Array Oper} {o : Oper} {a : Act} {K : Act → World → Prop} {Q : Exit → Act → World → Prop} {E : Prop} (hgd : o.guard = none) (s x : Operand)
    (ho : o.op = .call { callee := .builtin .append, args := #[s, x], argTypes := #[90, 90] })
    (base : Nat) (v : Value) (n : Nat) (xs : List Value) (hs : a.eval s = v) (hown : w.ownsRow base 4 1 v n xs)
    (b : Nat) (hx : a.eval x = .slice (some ⟨b, 0, none⟩) 1 1) (hc : w.cell? ⟨b, 0, none⟩ = some (.bool false)) (hn : n ≤ 16384) (hbase : base ≤ w.heap.size)
    (h : ∀ v' w', w'.ownsRow base 4 1 v' (n + 1) (xs ++ [.bool false]) → w.grownBy w' v.ownBlock → K (a.put o.dst v') w') : if Region.wanted o (yielded ops a.tmps) = true then Oper.wp Tryd.prog o a w K Q else E := by
  obtain ⟨i0, hi, hz0, hz1, hz2⟩ := info_parts infoBoolR
  obtain ⟨v', w', hrun, hown', hg, _⟩ := run_append_own (P := Tryd.prog) w base 90 o.type 4 i0 (.bool false) 1 1 Tryd.underlying90 hi hz0 hz1 hz2 rfl (by decide) v n xs hown ⟨b, 0, none⟩ 1 1 [.bool false] rfl
    (fun j y hj => by
      match j, hj with
      | 0, hj => simp at hj; subst hj; exact hc
      | j + 1, hj => simp at hj) (by simp [Value.oneCell']) (by unfold maxLen; omega) (by omega) hbase
  have hw : Region.wanted o (yielded ops a.tmps) = true := by simp [Region.wanted, hgd]
  rw [if_pos hw]
  unfold Oper.wp
  simp [execOp, ho, resolve, invoke, builtin, hs, hx, hrun, Result.andThen]
  exact h v' w' hown' hg

/-- The call's slots in the region. -/
abbrev ofAct (y : Nat) (ta : Option Addr) (tc : Nat) (x0 x1 x2 x3 x5 x7 x8 x9 x10 x11 x12 x13 x14 x15 x16 x17 x18 x19 x20 x21 x22 x23 x24 x25 x59 x60 : Value) (u : Nat → Value) : Act := { tmps := #[x0, x1, x2, x3, .pointer (some ⟨y, 0, none⟩), x5, .slice ta 64 tc, x7, x8, x9, x10, x11, x12, x13, x14, x15, x16, x17, x18, x19, x20, x21, x22, x23, x24, x25, u 26, u 27, u 28, u 29, u 30, u 31, u 32, u 33, u 34, u 35, u 36, u 37, u 38, u 39, u 40, u 41, u 42, u 43, u 44, u 45, u 46, u 47, u 48, u 49, u 50, u 51, u 52, u 53, u 54, u 55, u 56, u 57, u 58, x59, x60], defers := [] }
/-- What the operations that have come up have yielded. -/
structure OfT (y : Nat) (vL vK vW : Value) (ta : Option Addr) (tc : Nat) (D : Nat → Bool) (u : Nat → Value) : Prop where
  s0 : D 0 = true → u 26 = .pointer (some ⟨y, 0, none⟩)
  s1 : D 1 = true → u 27 = .pointer (some ⟨y, 0, none⟩)
  s2 : D 2 = true → u 28 = .pointer (some ⟨y, 0, none⟩)
  s3 : D 3 = true → u 29 = .pointer (some ⟨y, 0, none⟩)
  s4 : D 4 = true → u 30 = .pointer (some ⟨y, 0, none⟩)
  s5 : D 5 = true → u 31 = .pointer (some ⟨y, 0, none⟩)
  s6 : D 6 = true → u 32 = vL
  s8 : D 8 = true → u 34 = .slice ta 64 tc
  s12 : D 12 = true → u 38 = .pointer (some ⟨y, 0, none⟩)
  s13 : D 13 = true → u 39 = .pointer (some ⟨y, 0, none⟩)
  s14 : D 14 = true → u 40 = .pointer (some ⟨y, 1, none⟩)
  s15 : D 15 = true → u 41 = vK
  s17 : D 17 = true → u 43 = .slice ta 64 tc
  s21 : D 21 = true → u 47 = .pointer (some ⟨y, 0, none⟩)
  s22 : D 22 = true → u 48 = .pointer (some ⟨y, 0, none⟩)
  s23 : D 23 = true → u 49 = .pointer (some ⟨y, 2, none⟩)
  s24 : D 24 = true → u 50 = vW
  s27 : D 27 = true → u 53 = .pointer (some ⟨y, 0, none⟩)
  s28 : D 28 = true → u 54 = .pointer (some ⟨y, 0, none⟩)
  s30 : D 30 = true → u 55 = .pointer (some ⟨y, 0, none⟩)
  s31 : D 31 = true → u 56 = .pointer (some ⟨y, 1, none⟩)
  s33 : D 33 = true → u 57 = .pointer (some ⟨y, 0, none⟩)
  s34 : D 34 = true → u 58 = .pointer (some ⟨y, 2, none⟩)
structure OfW (y n : Nat) (vL vK vW : Value) (X : List (List Int)) (p : List Int) (W : World) (D : Nat → Bool) (u : Nat → Value) (w : World) : Prop where
  blk : Blk w y 92 #[cond (D 29) (u 37) vL, cond (D 32) (u 46) vK, cond (D 35) (u 52) vW, .int .i64 (-1), .bool false, .int .i64 0]
  bel : Below W.heap.size W w
  l0 : D 11 = false → OBs w W.heap.size vL X
  l1 : D 11 = true → OBs w W.heap.size (u 37) (X ++ [p])
  k0 : D 20 = false → OBs w W.heap.size vK X
  k1 : D 20 = true → OBs w W.heap.size (u 46) (X ++ [p])
  w0 : D 26 = false → w.ownsRow W.heap.size 4 1 vW n (List.replicate n (.bool false))
  w1 : D 26 = true → w.ownsRow W.heap.size 4 1 (u 52) (n + 1) (List.replicate n (.bool false) ++ [.bool false])
  sep : ∀ g, (cond (D 11) (u 37) vL).ownBlock = some g → (cond (D 20) (u 46) vK).ownBlock ≠ some g
  a7 : D 7 = true → ∃ g, u 33 = .slice (some ⟨g, 0, none⟩) 0 0
  a9 : D 9 = true → OB w W.heap.size (u 35) p
  a10 : D 10 = true → D 11 = false → ∃ b, u 36 = .slice (some ⟨b, 0, none⟩) 1 1 ∧ Blk w b 26 #[u 35]
  a16 : D 16 = true → ∃ g, u 42 = .slice (some ⟨g, 0, none⟩) 0 0
  a18 : D 18 = true → OB w W.heap.size (u 44) p
  a19 : D 19 = true → D 20 = false → ∃ b, u 45 = .slice (some ⟨b, 0, none⟩) 1 1 ∧ Blk w b 26 #[u 44]
  a25 : D 25 = true → D 26 = false → ∃ b, u 51 = .slice (some ⟨b, 0, none⟩) 1 1 ∧ Blk w b 4 #[.bool false]
theorem OfW.below {y n : Nat} {vL vK vW : Value} {X : List (List Int)} {p : List Int} {W : World} {D : Nat → Bool} {u : Nat → Value} {w w' : World} (h : OfW y n vL vK vW X p W D u w) (hb : Below w.heap.size w w') : OfW y n vL vK vW X p W D u w' :=
  ⟨h.blk.belowS hb, below_trans2 h.bel hb, fun q => (h.l0 q).below hb, fun q => (h.l1 q).below hb, fun q => (h.k0 q).below hb, fun q => (h.k1 q).below hb, fun q => ownsRow_below (h.w0 q) hb (Nat.le_refl _), fun q => ownsRow_below (h.w1 q) hb (Nat.le_refl _), h.sep, h.a7, fun q => (h.a9 q).below hb, fun q r => (by obtain ⟨b, e, k⟩ := h.a10 q r; exact ⟨b, e, k.belowS hb⟩), h.a16, fun q => (h.a18 q).below hb, fun q r => (by obtain ⟨b, e, k⟩ := h.a19 q r; exact ⟨b, e, k.belowS hb⟩), fun q r => (by obtain ⟨b, e, k⟩ := h.a25 q r; exact ⟨b, e, k.belowS hb⟩)⟩
def ofInv (y n : Nat) (vL vK vW : Value) (X : List (List Int)) (p : List Int) (W : World) (ta : Option Addr) (tc : Nat) (x0 x1 x2 x3 x5 x7 x8 x9 x10 x11 x12 x13 x14 x15 x16 x17 x18 x19 x20 x21 x22 x23 x24 x25 x59 x60 : Value) (D : Nat → Bool) (a : Act) (w : World) : Prop :=
  ∃ u, a = ofAct y ta tc x0 x1 x2 x3 x5 x7 x8 x9 x10 x11 x12 x13 x14 x15 x16 x17 x18 x19 x20 x21 x22 x23 x24 x25 x59 x60 u ∧ OfT y vL vK vW ta tc D u ∧ OfW y n vL vK vW X p W D u w
theorem needs_b {ops : Array Oper} {i j : Nat} (h : (needs ops i).contains j = true) : j ∈ needs ops i := List.contains_iff_mem.1 h

set_option maxRecDepth 100000 in
set_option maxHeartbeats 4000000 in
theorem rof_ok (v : Value) (pss : List (List Int)) (w0 : World) (hv : Sls w0 v pss) (h1 : 1 ≤ pss.length) (h2 : pss.length ≤ 16384) (hl : ∀ p ∈ pss, p.length = 64 ∧ IsB p) :
    Calls Tryd.prog 23 #[v] w0 fun e w' => ∃ y gl gk gw, e = .returned (.tuple #[.pointer (some ⟨y, 0, none⟩), .int .i64 0]) ∧ (∀ k ∈ [y, gl, gk, gw], w0.heap.size ≤ k) ∧ RDev w' y gl gk gw (ofD pss) ∧ Below w0.heap.size w0 w' := by
  have HV := Lib.hid hv
  obtain ⟨va, vc, rfl, hvc, hvm⟩ := hv.shape
  have hbA : Below w0.heap.size w0 (w0.alloc (.cells #[.slice none 0 0, .slice none 0 0, .slice none 0 0, .int .i64 (-1), .bool false, .int .i64 0] 92)) := (Below.refl _ _).alloc (Nat.le_refl _) _
  have kA := Blk.new w0 92 #[.slice none 0 0, .slice none 0 0, .slice none 0 0, .int .i64 (-1), .bool false, .int .i64 0]
  have HBA := Lib.hid hbA
  have HKA := Lib.hid kA
  have HH := Lib.hid hl
  have hI1 : ¬ (pss.length : Int) < 1 := by omega
  have hI2 : ¬ (16384 : Int) < (pss.length : Int) := by omega
  clear hv hbA kA hl
  go_enter Tryd.func23, Tryd.ntmps23
  go_upto_region 5 with (fail)
  generalize (w0.alloc (.cells #[.slice none 0 0, .slice none 0 0, .slice none 0 0, .int .i64 (-1), .bool false, .int .i64 0] 92)) = wA at *
  go_loopw [19] (fun i wr => ∃ (k : Nat) (vL vK vW : Value), k ≤ pss.length ∧ i = .int .i64 k ∧ Blk wr w0.heap.size 92 #[vL, vK, vW, .int .i64 (-1), .bool false, .int .i64 0] ∧ OBs wr w0.heap.size vL (pss.take k) ∧ OBs wr w0.heap.size vK (pss.take k) ∧ wr.ownsRow w0.heap.size 4 1 vW k (List.replicate k (.bool false)) ∧ (∀ g, vL.ownBlock = some g → vK.ownBlock ≠ some g) ∧ Below w0.heap.size w0 wr) (fun i _ => pss.length - (intOf i).toNat)
  case atStart => exact ⟨0, _, _, _, by omega, rfl, HKA.out, OBs.nil _ _, OBs.nil _ _, World.ownsRow_nil _ _ _ _, fun g hg => (by cases hg), HBA.out⟩
  case round =>
    obtain ⟨k, vL, vK, vW, hk, rfl, hY, hL, hK, hW, hsep, hb⟩ := hrel
    by_cases hlt : k < pss.length
    · have hkI : (k : Int) < (pss.length : Int) := by omega
      obtain ⟨b, off, rfl, hbb, uu, hcu, hu⟩ := HV.out.at hlt
      have hcu := (hb.cell (p := ⟨b, off + k, none⟩) hbb).trans hcu
      rw [show pss.getD k [] = pss[k] from by rw [List.getD_eq_getElem?_getD, List.getElem?_eq_getElem hlt]; rfl] at hu
      have hp := HH.out _ (List.getElem_mem hlt)
      have ht : pss.take k ++ [pss[k]] = pss.take (k + 1) := by rw [List.take_append_getElem]
      generalize pss[k] = p at *
      obtain ⟨ta, tc, rfl, htc, htm⟩ := hu.shape
      have HP := Lib.hid hp.1
      rw [List.length_map, hp.1] at hcu hu htc
      have HS := Lib.hid hu
      clear hu hp
      go_upto_region 9 with (fail)
      have hX : (pss.take k).length ≤ 16384 := by rw [List.length_take]; omega
      generalize pss.take k = X at *
      refine wp_region_inv2 (ofInv w0.heap.size k vL vK vW X p w0 ta tc (.slice (some ⟨b, off, none⟩) pss.length vc) undef u2 u3 undef (.slice (some ⟨b, off, none⟩) pss.length vc) (.int .i64 pss.length) (.bool false) (.bool false) (.slice (some ⟨b, off, none⟩) pss.length vc) (.int .i64 pss.length) (.bool false) (.bool false) (.agg #[.slice none 0 0, .slice none 0 0, .slice none 0 0, .int .i64 (-1), .bool false, .int .i64 0]) (.pointer (some ⟨w0.heap.size, 0, none⟩)) (.slice (some ⟨b, off, none⟩) pss.length vc) (.int .i64 pss.length) (.int .i64 k) (.bool true) (.pointer (some ⟨b, off + k, none⟩)) (.slice ta 64 tc) (.slice ta 64 tc) (.int .i64 64) (.bool false) u59 undef) (by kernel_rfl) (by kernel_rfl) ?start ?step ?fin
      case start =>
        refine ⟨fun k => (#[u26, u27, u28, u29, u30, u31, u32, u33, u34, u35, u36, u37, u38, u39, u40, u41, u42, u43, u44, u45, u46, u47, u48, u49, u50, u51, u52, u53, u54, u55, u56, u57, u58] : Array Value).getD (k - 26) undef, rfl, ?_, ?_⟩
        · exact ⟨(fun q => by cases q), (fun q => by cases q), (fun q => by cases q), (fun q => by cases q), (fun q => by cases q), (fun q => by cases q), (fun q => by cases q), (fun q => by cases q), (fun q => by cases q), (fun q => by cases q), (fun q => by cases q), (fun q => by cases q), (fun q => by cases q), (fun q => by cases q), (fun q => by cases q), (fun q => by cases q), (fun q => by cases q), (fun q => by cases q), (fun q => by cases q), (fun q => by cases q), (fun q => by cases q), (fun q => by cases q), (fun q => by cases q)⟩
        · exact ⟨hY, hb.drew, fun _ => hL.only (Only.refl [] wr).drew (by simp), (fun q => by cases q), fun _ => hK.only (Only.refl [] wr).drew (by simp), (fun q => by cases q), fun _ => hW, (fun q => by cases q), hsep, (fun q => by cases q), (fun q => by cases q), (fun q => by cases q), (fun q => by cases q), (fun q => by cases q), (fun q => by cases q), (fun q => by cases q)⟩
      case step =>
        intro D a w i hi hI hD hcl hn
        obtain ⟨u, rfl, hT, hW⟩ := hI
        have hi' : i < 36 := hi
        clear hi
        rcases (show i = 0 ∨ i = 1 ∨ i = 2 ∨ i = 3 ∨ i = 4 ∨ i = 5 ∨ i = 6 ∨ i = 7 ∨ i = 8 ∨ i = 9 ∨ i = 10 ∨ i = 11 ∨ i = 12 ∨ i = 13 ∨ i = 14 ∨ i = 15 ∨ i = 16 ∨ i = 17 ∨ i = 18 ∨ i = 19 ∨ i = 20 ∨ i = 21 ∨ i = 22 ∨ i = 23 ∨ i = 24 ∨ i = 25 ∨ i = 26 ∨ i = 27 ∨ i = 28 ∨ i = 29 ∨ i = 30 ∨ i = 31 ∨ i = 32 ∨ i = 33 ∨ i = 34 ∨ i = 35 from by omega) with rfl | rfl | rfl | rfl | rfl | rfl | rfl | rfl | rfl | rfl | rfl | rfl | rfl | rfl | rfl | rfl | rfl | rfl | rfl | rfl | rfl | rfl | rfl | rfl | rfl | rfl | rfl | rfl | rfl | rfl | rfl | rfl | rfl | rfl | rfl | rfl
        · refine wpOp_plain rfl rfl ?_
          go_simp
          exact ⟨upd u 26 (.pointer (some ⟨w0.heap.size, 0, none⟩)), rfl, ⟨fun _ => rfl, fun h => hT.s1 h, fun h => hT.s2 h, fun h => hT.s3 h, fun h => hT.s4 h, fun h => hT.s5 h, fun h => hT.s6 h, fun h => hT.s8 h, fun h => hT.s12 h, fun h => hT.s13 h, fun h => hT.s14 h, fun h => hT.s15 h, fun h => hT.s17 h, fun h => hT.s21 h, fun h => hT.s22 h, fun h => hT.s23 h, fun h => hT.s24 h, fun h => hT.s27 h, fun h => hT.s28 h, fun h => hT.s30 h, fun h => hT.s31 h, fun h => hT.s33 h, fun h => hT.s34 h⟩, ⟨hW.blk, hW.bel, hW.l0, hW.l1, hW.k0, hW.k1, hW.w0, hW.w1, hW.sep, hW.a7, hW.a9, hW.a10, hW.a16, hW.a18, hW.a19, hW.a25⟩⟩
        · refine wpOp_plain rfl rfl ?_
          go_simp
          exact ⟨upd u 27 (.pointer (some ⟨w0.heap.size, 0, none⟩)), rfl, ⟨fun h => hT.s0 h, fun _ => rfl, fun h => hT.s2 h, fun h => hT.s3 h, fun h => hT.s4 h, fun h => hT.s5 h, fun h => hT.s6 h, fun h => hT.s8 h, fun h => hT.s12 h, fun h => hT.s13 h, fun h => hT.s14 h, fun h => hT.s15 h, fun h => hT.s17 h, fun h => hT.s21 h, fun h => hT.s22 h, fun h => hT.s23 h, fun h => hT.s24 h, fun h => hT.s27 h, fun h => hT.s28 h, fun h => hT.s30 h, fun h => hT.s31 h, fun h => hT.s33 h, fun h => hT.s34 h⟩, ⟨hW.blk, hW.bel, hW.l0, hW.l1, hW.k0, hW.k1, hW.w0, hW.w1, hW.sep, hW.a7, hW.a9, hW.a10, hW.a16, hW.a18, hW.a19, hW.a25⟩⟩
        · refine wpOp_plain rfl rfl ?_
          go_simp
          exact ⟨upd u 28 (.pointer (some ⟨w0.heap.size, 0, none⟩)), rfl, ⟨fun h => hT.s0 h, fun h => hT.s1 h, fun _ => rfl, fun h => hT.s3 h, fun h => hT.s4 h, fun h => hT.s5 h, fun h => hT.s6 h, fun h => hT.s8 h, fun h => hT.s12 h, fun h => hT.s13 h, fun h => hT.s14 h, fun h => hT.s15 h, fun h => hT.s17 h, fun h => hT.s21 h, fun h => hT.s22 h, fun h => hT.s23 h, fun h => hT.s24 h, fun h => hT.s27 h, fun h => hT.s28 h, fun h => hT.s30 h, fun h => hT.s31 h, fun h => hT.s33 h, fun h => hT.s34 h⟩, ⟨hW.blk, hW.bel, hW.l0, hW.l1, hW.k0, hW.k1, hW.w0, hW.w1, hW.sep, hW.a7, hW.a9, hW.a10, hW.a16, hW.a18, hW.a19, hW.a25⟩⟩
        · refine wpOp_plain rfl rfl ?_
          go_simp
          exact ⟨upd u 29 (.pointer (some ⟨w0.heap.size, 0, none⟩)), rfl, ⟨fun h => hT.s0 h, fun h => hT.s1 h, fun h => hT.s2 h, fun _ => rfl, fun h => hT.s4 h, fun h => hT.s5 h, fun h => hT.s6 h, fun h => hT.s8 h, fun h => hT.s12 h, fun h => hT.s13 h, fun h => hT.s14 h, fun h => hT.s15 h, fun h => hT.s17 h, fun h => hT.s21 h, fun h => hT.s22 h, fun h => hT.s23 h, fun h => hT.s24 h, fun h => hT.s27 h, fun h => hT.s28 h, fun h => hT.s30 h, fun h => hT.s31 h, fun h => hT.s33 h, fun h => hT.s34 h⟩, ⟨hW.blk, hW.bel, hW.l0, hW.l1, hW.k0, hW.k1, hW.w0, hW.w1, hW.sep, hW.a7, hW.a9, hW.a10, hW.a16, hW.a18, hW.a19, hW.a25⟩⟩
        · have d3 : D 3 = true := hn 3 (needs_b (by kernel_rfl))
          have e29 := hT.s3 d3
          refine wpOp_plain rfl rfl ?_
          go_simp
          exact ⟨upd u 30 (.pointer (some ⟨w0.heap.size, 0, none⟩)), by first | rfl | simp [upd, e29], ⟨fun h => hT.s0 h, fun h => hT.s1 h, fun h => hT.s2 h, fun h => hT.s3 h, fun _ => rfl, fun h => hT.s5 h, fun h => hT.s6 h, fun h => hT.s8 h, fun h => hT.s12 h, fun h => hT.s13 h, fun h => hT.s14 h, fun h => hT.s15 h, fun h => hT.s17 h, fun h => hT.s21 h, fun h => hT.s22 h, fun h => hT.s23 h, fun h => hT.s24 h, fun h => hT.s27 h, fun h => hT.s28 h, fun h => hT.s30 h, fun h => hT.s31 h, fun h => hT.s33 h, fun h => hT.s34 h⟩, ⟨hW.blk, hW.bel, hW.l0, hW.l1, hW.k0, hW.k1, hW.w0, hW.w1, hW.sep, hW.a7, hW.a9, hW.a10, hW.a16, hW.a18, hW.a19, hW.a25⟩⟩
        · have d4 : D 4 = true := hn 4 (needs_b (by kernel_rfl))
          have e30 := hT.s4 d4
          refine wpOp_plain rfl rfl ?_
          go_simp
          exact ⟨upd u 31 (.pointer (some ⟨w0.heap.size, 0, none⟩)), by first | rfl | simp [upd, e30], ⟨fun h => hT.s0 h, fun h => hT.s1 h, fun h => hT.s2 h, fun h => hT.s3 h, fun h => hT.s4 h, fun _ => rfl, fun h => hT.s6 h, fun h => hT.s8 h, fun h => hT.s12 h, fun h => hT.s13 h, fun h => hT.s14 h, fun h => hT.s15 h, fun h => hT.s17 h, fun h => hT.s21 h, fun h => hT.s22 h, fun h => hT.s23 h, fun h => hT.s24 h, fun h => hT.s27 h, fun h => hT.s28 h, fun h => hT.s30 h, fun h => hT.s31 h, fun h => hT.s33 h, fun h => hT.s34 h⟩, ⟨hW.blk, hW.bel, hW.l0, hW.l1, hW.k0, hW.k1, hW.w0, hW.w1, hW.sep, hW.a7, hW.a9, hW.a10, hW.a16, hW.a18, hW.a19, hW.a25⟩⟩
        · have d5 : D 5 = true := hn 5 (needs_b (by kernel_rfl))
          have e31 := hT.s5 d5
          have n1 : D 29 = false := by
            cases q : D 29 with
            | false => rfl
            | true => have := hcl 11 6 (hcl 29 11 q (needs_b (by kernel_rfl))) (needs_b (by kernel_rfl)); rw [hD] at this; cases this
          have c0 : w.cell? ⟨w0.heap.size, 0, none⟩ = some vL := (hW.blk.cell 0).trans (by simp [n1])
          refine wpOp_plain rfl rfl ?_
          go_simp
          exact ⟨upd u 32 (vL), by first | rfl | simp [upd, e31], ⟨fun h => hT.s0 h, fun h => hT.s1 h, fun h => hT.s2 h, fun h => hT.s3 h, fun h => hT.s4 h, fun h => hT.s5 h, fun _ => rfl, fun h => hT.s8 h, fun h => hT.s12 h, fun h => hT.s13 h, fun h => hT.s14 h, fun h => hT.s15 h, fun h => hT.s17 h, fun h => hT.s21 h, fun h => hT.s22 h, fun h => hT.s23 h, fun h => hT.s24 h, fun h => hT.s27 h, fun h => hT.s28 h, fun h => hT.s30 h, fun h => hT.s31 h, fun h => hT.s33 h, fun h => hT.s34 h⟩, ⟨hW.blk, hW.bel, hW.l0, hW.l1, hW.k0, hW.k1, hW.w0, hW.w1, hW.sep, hW.a7, hW.a9, hW.a10, hW.a16, hW.a18, hW.a19, hW.a25⟩⟩
        · refine wpOp_plain rfl rfl ?_
          go_simp
          have hb2 : Below w.heap.size w (w.alloc (.cells #[] 5)) := (Below.refl _ _).alloc (Nat.le_refl _) _
          have hW := hW.below hb2
          exact ⟨upd u 33 (.slice (some ⟨w.heap.size, 0, none⟩) 0 0), rfl, ⟨fun h => hT.s0 h, fun h => hT.s1 h, fun h => hT.s2 h, fun h => hT.s3 h, fun h => hT.s4 h, fun h => hT.s5 h, fun h => hT.s6 h, fun h => hT.s8 h, fun h => hT.s12 h, fun h => hT.s13 h, fun h => hT.s14 h, fun h => hT.s15 h, fun h => hT.s17 h, fun h => hT.s21 h, fun h => hT.s22 h, fun h => hT.s23 h, fun h => hT.s24 h, fun h => hT.s27 h, fun h => hT.s28 h, fun h => hT.s30 h, fun h => hT.s31 h, fun h => hT.s33 h, fun h => hT.s34 h⟩, ⟨hW.blk, hW.bel, hW.l0, hW.l1, hW.k0, hW.k1, hW.w0, hW.w1, hW.sep, (fun _ => ⟨_, rfl⟩), hW.a9, hW.a10, hW.a16, hW.a18, hW.a19, hW.a25⟩⟩
        · refine wpOp_plain rfl rfl ?_
          go_simp
          exact ⟨upd u 34 (.slice ta 64 tc), rfl, ⟨fun h => hT.s0 h, fun h => hT.s1 h, fun h => hT.s2 h, fun h => hT.s3 h, fun h => hT.s4 h, fun h => hT.s5 h, fun h => hT.s6 h, fun _ => rfl, fun h => hT.s12 h, fun h => hT.s13 h, fun h => hT.s14 h, fun h => hT.s15 h, fun h => hT.s17 h, fun h => hT.s21 h, fun h => hT.s22 h, fun h => hT.s23 h, fun h => hT.s24 h, fun h => hT.s27 h, fun h => hT.s28 h, fun h => hT.s30 h, fun h => hT.s31 h, fun h => hT.s33 h, fun h => hT.s34 h⟩, ⟨hW.blk, hW.bel, hW.l0, hW.l1, hW.k0, hW.k1, hW.w0, hW.w1, hW.sep, hW.a7, hW.a9, hW.a10, hW.a16, hW.a18, hW.a19, hW.a25⟩⟩
        · have d7 : D 7 = true := hn 7 (needs_b (by kernel_rfl))
          have d8 : D 8 = true := hn 8 (needs_b (by kernel_rfl))
          obtain ⟨g, e33⟩ := hW.a7 d7
          have e34 := hT.s8 d8
          refine wpOp_step rfl rfl (step_append_new rfl (.tmp 33) (.tmp 34) rfl g e33 ta tc e34 p HP.out (HS.out.below hW.bel (Nat.le_refl _)) ?_)
          intro v2 w2 hx hb2
          have hsz := hW.bel.size
          have hW := hW.below hb2
          exact ⟨upd u 35 v2, rfl, ⟨fun h => hT.s0 h, fun h => hT.s1 h, fun h => hT.s2 h, fun h => hT.s3 h, fun h => hT.s4 h, fun h => hT.s5 h, fun h => hT.s6 h, fun h => hT.s8 h, fun h => hT.s12 h, fun h => hT.s13 h, fun h => hT.s14 h, fun h => hT.s15 h, fun h => hT.s17 h, fun h => hT.s21 h, fun h => hT.s22 h, fun h => hT.s23 h, fun h => hT.s24 h, fun h => hT.s27 h, fun h => hT.s28 h, fun h => hT.s30 h, fun h => hT.s31 h, fun h => hT.s33 h, fun h => hT.s34 h⟩, ⟨hW.blk, hW.bel, hW.l0, hW.l1, hW.k0, hW.k1, hW.w0, hW.w1, hW.sep, hW.a7, (fun _ => hx.base hsz), (fun q _ => (by have := hcl 10 9 q (needs_b (by kernel_rfl)); rw [hD] at this; cases this)), hW.a16, hW.a18, hW.a19, hW.a25⟩⟩
        · have d9 : D 9 = true := hn 9 (needs_b (by kernel_rfl))
          obtain ⟨xa, xn, xc, e35⟩ := (hW.a9 d9).sl.val
          refine wpOp_plain rfl rfl ?_
          go_simp
          have hb2 : Below w.heap.size w (w.alloc (.cells #[.slice xa xn xc] 26)) := (Below.refl _ _).alloc (Nat.le_refl _) _
          have kb := Blk.new w 26 #[.slice xa xn xc]
          have hW := hW.below hb2
          exact ⟨upd u 36 (.slice (some ⟨w.heap.size, 0, none⟩) 1 1), by first | rfl | simp [upd, e35], ⟨fun h => hT.s0 h, fun h => hT.s1 h, fun h => hT.s2 h, fun h => hT.s3 h, fun h => hT.s4 h, fun h => hT.s5 h, fun h => hT.s6 h, fun h => hT.s8 h, fun h => hT.s12 h, fun h => hT.s13 h, fun h => hT.s14 h, fun h => hT.s15 h, fun h => hT.s17 h, fun h => hT.s21 h, fun h => hT.s22 h, fun h => hT.s23 h, fun h => hT.s24 h, fun h => hT.s27 h, fun h => hT.s28 h, fun h => hT.s30 h, fun h => hT.s31 h, fun h => hT.s33 h, fun h => hT.s34 h⟩, ⟨hW.blk, hW.bel, hW.l0, hW.l1, hW.k0, hW.k1, hW.w0, hW.w1, hW.sep, hW.a7, hW.a9, (fun _ _ => ⟨w.heap.size, rfl, by show Blk _ _ _ #[u 35]; rw [e35]; exact kb⟩), hW.a16, hW.a18, hW.a19, hW.a25⟩⟩
        · have d6 : D 6 = true := hn 6 (needs_b (by kernel_rfl))
          have d10 : D 10 = true := hn 10 (needs_b (by kernel_rfl))
          have d9 : D 9 = true := hn 9 (needs_b (by kernel_rfl))
          have e32 := hT.s6 d6
          obtain ⟨b, e36, kb⟩ := hW.a10 d10 hD
          have hOL := hW.l0 hD
          have n18 : D 18 = false := by
            cases q : D 18 with
            | false => rfl
            | true => have := hcl 18 11 q (needs_b (by kernel_rfl)); rw [hD] at this; cases this
          have n29 : D 29 = false := by
            cases q : D 29 with
            | false => rfl
            | true => have := hcl 29 11 q (needs_b (by kernel_rfl)); rw [hD] at this; cases this
          have n19 : D 19 = false := by
            cases q : D 19 with
            | false => rfl
            | true => have := hcl 19 18 q (needs_b (by kernel_rfl)); rw [n18] at this; cases this
          refine wpOp_step rfl rfl (step_append_ob2 rfl (.tmp 32) (.tmp 36) rfl w0.heap.size vL X e32 hOL b 1 e36 (u 35) (kb.cell 0) p (hW.a9 d9) (by have := hX; omega) hW.bel.size ?_)
          intro v2 w2 hx hb2 hg2 hq2
          have ho := Only.of_grownO hg2
          have typ : ∀ g ∈ vL.ownBlock.toList, ∃ cur, Blk w g 26 cur := fun g hg => by
            obtain ⟨vs, h1, _⟩ := hOL
            exact owns_blk h1 (by simpa using hg)
          have h8 : ∀ g ∈ vL.ownBlock.toList, ∀ cur, ¬ Blk w g 5 cur := fun g hg cur e => by
            obtain ⟨cur2, k2⟩ := typ g hg
            exact Blk.ne_ e k2 (by decide) rfl
          have hbo : ∀ g ∈ vL.ownBlock.toList, ∀ cur, ¬ Blk w g 4 cur := fun g hg cur e => by
            obtain ⟨cur2, k2⟩ := typ g hg
            exact Blk.ne_ e k2 (by decide) rfl
          have hyn : w0.heap.size ∉ vL.ownBlock.toList := fun hm => by
            obtain ⟨cur2, k2⟩ := typ _ hm
            exact Blk.ne_ hW.blk k2 (by decide) rfl
          have hsp : ∀ g, (cond (D 20) (u 46) vK).ownBlock = some g → g ∉ vL.ownBlock.toList := fun g hg hm => hW.sep g (by rw [hD]; simpa using hm) hg
          have hws : ∀ (v : Value) n xs, w.ownsRow w0.heap.size 4 1 v n xs → w2.ownsRow w0.heap.size 4 1 v n xs := fun v n xs q => ho.owns q fun g hg hm => by
            obtain ⟨cur, k⟩ := owns_blk q hg
            exact hbo g hm cur k
          have hsz := hW.bel.size
          have hlt : ∀ g, (cond (D 20) (u 46) vK).ownBlock = some g → g < w.heap.size := fun g hg => by
            cases q : D 20 with
            | false => rw [q] at hg; obtain ⟨vs, h1, _⟩ := hW.k0 q; obtain ⟨cur, k⟩ := owns_blk h1 hg; exact k.lt
            | true => rw [q] at hg; obtain ⟨vs, h1, _⟩ := hW.k1 q; obtain ⟨cur, k⟩ := owns_blk h1 hg; exact k.lt
          have hsep2 : ∀ g, v2.ownBlock = some g → (cond (D 20) (u 46) vK).ownBlock ≠ some g := fun g h1 h2 => by
            rcases hq2 g h1 with h3 | h3
            · exact hW.sep g (by rw [hD]; exact h3) h2
            · have := hlt g h2; omega
          exact ⟨upd u 37 v2, rfl, ⟨fun h => hT.s0 h, fun h => hT.s1 h, fun h => hT.s2 h, fun h => hT.s3 h, fun h => hT.s4 h, fun h => hT.s5 h, fun h => hT.s6 h, fun h => hT.s8 h, fun h => hT.s12 h, fun h => hT.s13 h, fun h => hT.s14 h, fun h => hT.s15 h, fun h => hT.s17 h, fun h => hT.s21 h, fun h => hT.s22 h, fun h => hT.s23 h, fun h => hT.s24 h, fun h => hT.s27 h, fun h => hT.s28 h, fun h => hT.s30 h, fun h => hT.s31 h, fun h => hT.s33 h, fun h => hT.s34 h⟩, ⟨(by have h := ho.blk hW.blk hyn; rw [n29] at h; show Blk _ _ _ #[cond (D 29) v2 vL, _, _, _, _, _]; rw [n29]; exact h), (hW.bel.trans hb2), (fun q => by cases q), (fun _ => hx), (fun q => (hW.k0 q).keepR ho h8 (by rw [show D 20 = false from q] at hsp; exact hsp)), (fun q => (hW.k1 q).keepR ho h8 (by rw [show D 20 = true from q] at hsp; exact hsp)), (fun q => hws _ _ _ (hW.w0 q)), (fun q => hws _ _ _ (hW.w1 q)), (hsep2), hW.a7, (fun q => (hW.a9 q).only ho h8), (fun _ q => by cases q), hW.a16, (fun q => (hW.a18 q).only ho h8), (fun q => by have q : D 19 = true := q; rw [n19] at q; cases q), (fun q r => by obtain ⟨b2, e2, k2⟩ := hW.a25 q r; exact ⟨b2, e2, ho.blk k2 (fun hm => hbo _ hm _ k2)⟩)⟩⟩
        · refine wpOp_plain rfl rfl ?_
          go_simp
          exact ⟨upd u 38 (.pointer (some ⟨w0.heap.size, 0, none⟩)), rfl, ⟨fun h => hT.s0 h, fun h => hT.s1 h, fun h => hT.s2 h, fun h => hT.s3 h, fun h => hT.s4 h, fun h => hT.s5 h, fun h => hT.s6 h, fun h => hT.s8 h, fun _ => rfl, fun h => hT.s13 h, fun h => hT.s14 h, fun h => hT.s15 h, fun h => hT.s17 h, fun h => hT.s21 h, fun h => hT.s22 h, fun h => hT.s23 h, fun h => hT.s24 h, fun h => hT.s27 h, fun h => hT.s28 h, fun h => hT.s30 h, fun h => hT.s31 h, fun h => hT.s33 h, fun h => hT.s34 h⟩, ⟨hW.blk, hW.bel, hW.l0, hW.l1, hW.k0, hW.k1, hW.w0, hW.w1, hW.sep, hW.a7, hW.a9, hW.a10, hW.a16, hW.a18, hW.a19, hW.a25⟩⟩
        · have d12 : D 12 = true := hn 12 (needs_b (by kernel_rfl))
          have e38 := hT.s12 d12
          refine wpOp_plain rfl rfl ?_
          go_simp
          exact ⟨upd u 39 (.pointer (some ⟨w0.heap.size, 0, none⟩)), by first | rfl | simp [upd, e38], ⟨fun h => hT.s0 h, fun h => hT.s1 h, fun h => hT.s2 h, fun h => hT.s3 h, fun h => hT.s4 h, fun h => hT.s5 h, fun h => hT.s6 h, fun h => hT.s8 h, fun h => hT.s12 h, fun _ => rfl, fun h => hT.s14 h, fun h => hT.s15 h, fun h => hT.s17 h, fun h => hT.s21 h, fun h => hT.s22 h, fun h => hT.s23 h, fun h => hT.s24 h, fun h => hT.s27 h, fun h => hT.s28 h, fun h => hT.s30 h, fun h => hT.s31 h, fun h => hT.s33 h, fun h => hT.s34 h⟩, ⟨hW.blk, hW.bel, hW.l0, hW.l1, hW.k0, hW.k1, hW.w0, hW.w1, hW.sep, hW.a7, hW.a9, hW.a10, hW.a16, hW.a18, hW.a19, hW.a25⟩⟩
        · have d13 : D 13 = true := hn 13 (needs_b (by kernel_rfl))
          have e39 := hT.s13 d13
          refine wpOp_plain rfl rfl ?_
          go_simp
          exact ⟨upd u 40 (.pointer (some ⟨w0.heap.size, 1, none⟩)), by first | rfl | simp [upd, e39], ⟨fun h => hT.s0 h, fun h => hT.s1 h, fun h => hT.s2 h, fun h => hT.s3 h, fun h => hT.s4 h, fun h => hT.s5 h, fun h => hT.s6 h, fun h => hT.s8 h, fun h => hT.s12 h, fun h => hT.s13 h, fun _ => rfl, fun h => hT.s15 h, fun h => hT.s17 h, fun h => hT.s21 h, fun h => hT.s22 h, fun h => hT.s23 h, fun h => hT.s24 h, fun h => hT.s27 h, fun h => hT.s28 h, fun h => hT.s30 h, fun h => hT.s31 h, fun h => hT.s33 h, fun h => hT.s34 h⟩, ⟨hW.blk, hW.bel, hW.l0, hW.l1, hW.k0, hW.k1, hW.w0, hW.w1, hW.sep, hW.a7, hW.a9, hW.a10, hW.a16, hW.a18, hW.a19, hW.a25⟩⟩
        · have d14 : D 14 = true := hn 14 (needs_b (by kernel_rfl))
          have e40 := hT.s14 d14
          have n1 : D 32 = false := by
            cases q : D 32 with
            | false => rfl
            | true => have := hcl 20 15 (hcl 32 20 q (needs_b (by kernel_rfl))) (needs_b (by kernel_rfl)); rw [hD] at this; cases this
          have c0 : w.cell? ⟨w0.heap.size, 1, none⟩ = some vK := (hW.blk.cell 1).trans (by simp [n1])
          refine wpOp_plain rfl rfl ?_
          go_simp
          exact ⟨upd u 41 (vK), by first | rfl | simp [upd, e40], ⟨fun h => hT.s0 h, fun h => hT.s1 h, fun h => hT.s2 h, fun h => hT.s3 h, fun h => hT.s4 h, fun h => hT.s5 h, fun h => hT.s6 h, fun h => hT.s8 h, fun h => hT.s12 h, fun h => hT.s13 h, fun h => hT.s14 h, fun _ => rfl, fun h => hT.s17 h, fun h => hT.s21 h, fun h => hT.s22 h, fun h => hT.s23 h, fun h => hT.s24 h, fun h => hT.s27 h, fun h => hT.s28 h, fun h => hT.s30 h, fun h => hT.s31 h, fun h => hT.s33 h, fun h => hT.s34 h⟩, ⟨hW.blk, hW.bel, hW.l0, hW.l1, hW.k0, hW.k1, hW.w0, hW.w1, hW.sep, hW.a7, hW.a9, hW.a10, hW.a16, hW.a18, hW.a19, hW.a25⟩⟩
        · refine wpOp_plain rfl rfl ?_
          go_simp
          have hb2 : Below w.heap.size w (w.alloc (.cells #[] 5)) := (Below.refl _ _).alloc (Nat.le_refl _) _
          have hW := hW.below hb2
          exact ⟨upd u 42 (.slice (some ⟨w.heap.size, 0, none⟩) 0 0), rfl, ⟨fun h => hT.s0 h, fun h => hT.s1 h, fun h => hT.s2 h, fun h => hT.s3 h, fun h => hT.s4 h, fun h => hT.s5 h, fun h => hT.s6 h, fun h => hT.s8 h, fun h => hT.s12 h, fun h => hT.s13 h, fun h => hT.s14 h, fun h => hT.s15 h, fun h => hT.s17 h, fun h => hT.s21 h, fun h => hT.s22 h, fun h => hT.s23 h, fun h => hT.s24 h, fun h => hT.s27 h, fun h => hT.s28 h, fun h => hT.s30 h, fun h => hT.s31 h, fun h => hT.s33 h, fun h => hT.s34 h⟩, ⟨hW.blk, hW.bel, hW.l0, hW.l1, hW.k0, hW.k1, hW.w0, hW.w1, hW.sep, hW.a7, hW.a9, hW.a10, (fun _ => ⟨_, rfl⟩), hW.a18, hW.a19, hW.a25⟩⟩
        · refine wpOp_plain rfl rfl ?_
          go_simp
          exact ⟨upd u 43 (.slice ta 64 tc), rfl, ⟨fun h => hT.s0 h, fun h => hT.s1 h, fun h => hT.s2 h, fun h => hT.s3 h, fun h => hT.s4 h, fun h => hT.s5 h, fun h => hT.s6 h, fun h => hT.s8 h, fun h => hT.s12 h, fun h => hT.s13 h, fun h => hT.s14 h, fun h => hT.s15 h, fun _ => rfl, fun h => hT.s21 h, fun h => hT.s22 h, fun h => hT.s23 h, fun h => hT.s24 h, fun h => hT.s27 h, fun h => hT.s28 h, fun h => hT.s30 h, fun h => hT.s31 h, fun h => hT.s33 h, fun h => hT.s34 h⟩, ⟨hW.blk, hW.bel, hW.l0, hW.l1, hW.k0, hW.k1, hW.w0, hW.w1, hW.sep, hW.a7, hW.a9, hW.a10, hW.a16, hW.a18, hW.a19, hW.a25⟩⟩
        · have d16 : D 16 = true := hn 16 (needs_b (by kernel_rfl))
          have d17 : D 17 = true := hn 17 (needs_b (by kernel_rfl))
          obtain ⟨g, e42⟩ := hW.a16 d16
          have e43 := hT.s17 d17
          refine wpOp_step rfl rfl (step_append_new rfl (.tmp 42) (.tmp 43) rfl g e42 ta tc e43 p HP.out (HS.out.below hW.bel (Nat.le_refl _)) ?_)
          intro v2 w2 hx hb2
          have hsz := hW.bel.size
          have hW := hW.below hb2
          exact ⟨upd u 44 v2, rfl, ⟨fun h => hT.s0 h, fun h => hT.s1 h, fun h => hT.s2 h, fun h => hT.s3 h, fun h => hT.s4 h, fun h => hT.s5 h, fun h => hT.s6 h, fun h => hT.s8 h, fun h => hT.s12 h, fun h => hT.s13 h, fun h => hT.s14 h, fun h => hT.s15 h, fun h => hT.s17 h, fun h => hT.s21 h, fun h => hT.s22 h, fun h => hT.s23 h, fun h => hT.s24 h, fun h => hT.s27 h, fun h => hT.s28 h, fun h => hT.s30 h, fun h => hT.s31 h, fun h => hT.s33 h, fun h => hT.s34 h⟩, ⟨hW.blk, hW.bel, hW.l0, hW.l1, hW.k0, hW.k1, hW.w0, hW.w1, hW.sep, hW.a7, hW.a9, hW.a10, hW.a16, (fun _ => hx.base hsz), (fun q _ => (by have := hcl 19 18 q (needs_b (by kernel_rfl)); rw [hD] at this; cases this)), hW.a25⟩⟩
        · have d18 : D 18 = true := hn 18 (needs_b (by kernel_rfl))
          obtain ⟨xa, xn, xc, e44⟩ := (hW.a18 d18).sl.val
          refine wpOp_plain rfl rfl ?_
          go_simp
          have hb2 : Below w.heap.size w (w.alloc (.cells #[.slice xa xn xc] 26)) := (Below.refl _ _).alloc (Nat.le_refl _) _
          have kb := Blk.new w 26 #[.slice xa xn xc]
          have hW := hW.below hb2
          exact ⟨upd u 45 (.slice (some ⟨w.heap.size, 0, none⟩) 1 1), by first | rfl | simp [upd, e44], ⟨fun h => hT.s0 h, fun h => hT.s1 h, fun h => hT.s2 h, fun h => hT.s3 h, fun h => hT.s4 h, fun h => hT.s5 h, fun h => hT.s6 h, fun h => hT.s8 h, fun h => hT.s12 h, fun h => hT.s13 h, fun h => hT.s14 h, fun h => hT.s15 h, fun h => hT.s17 h, fun h => hT.s21 h, fun h => hT.s22 h, fun h => hT.s23 h, fun h => hT.s24 h, fun h => hT.s27 h, fun h => hT.s28 h, fun h => hT.s30 h, fun h => hT.s31 h, fun h => hT.s33 h, fun h => hT.s34 h⟩, ⟨hW.blk, hW.bel, hW.l0, hW.l1, hW.k0, hW.k1, hW.w0, hW.w1, hW.sep, hW.a7, hW.a9, hW.a10, hW.a16, hW.a18, (fun _ _ => ⟨w.heap.size, rfl, by show Blk _ _ _ #[u 44]; rw [e44]; exact kb⟩), hW.a25⟩⟩
        · have d15 : D 15 = true := hn 15 (needs_b (by kernel_rfl))
          have d19 : D 19 = true := hn 19 (needs_b (by kernel_rfl))
          have d18 : D 18 = true := hn 18 (needs_b (by kernel_rfl))
          have d11 : D 11 = true := hcl 18 11 d18 (needs_b (by kernel_rfl))
          have e41 := hT.s15 d15
          obtain ⟨b, e45, kb⟩ := hW.a19 d19 hD
          have hOL := hW.k0 hD
          have n32 : D 32 = false := by
            cases q : D 32 with
            | false => rfl
            | true => have := hcl 32 20 q (needs_b (by kernel_rfl)); rw [hD] at this; cases this
          refine wpOp_step rfl rfl (step_append_ob2 rfl (.tmp 41) (.tmp 45) rfl w0.heap.size vK X e41 hOL b 1 e45 (u 44) (kb.cell 0) p (hW.a18 d18) (by have := hX; omega) hW.bel.size ?_)
          intro v2 w2 hx hb2 hg2 hq2
          have ho := Only.of_grownO hg2
          have typ : ∀ g ∈ vK.ownBlock.toList, ∃ cur, Blk w g 26 cur := fun g hg => by
            obtain ⟨vs, h1, _⟩ := hOL
            exact owns_blk h1 (by simpa using hg)
          have h8 : ∀ g ∈ vK.ownBlock.toList, ∀ cur, ¬ Blk w g 5 cur := fun g hg cur e => by
            obtain ⟨cur2, k2⟩ := typ g hg
            exact Blk.ne_ e k2 (by decide) rfl
          have hbo : ∀ g ∈ vK.ownBlock.toList, ∀ cur, ¬ Blk w g 4 cur := fun g hg cur e => by
            obtain ⟨cur2, k2⟩ := typ g hg
            exact Blk.ne_ e k2 (by decide) rfl
          have hyn : w0.heap.size ∉ vK.ownBlock.toList := fun hm => by
            obtain ⟨cur2, k2⟩ := typ _ hm
            exact Blk.ne_ hW.blk k2 (by decide) rfl
          have hsp : ∀ g, (u 37).ownBlock = some g → g ∉ vK.ownBlock.toList := fun g hg hm => hW.sep g (by rw [d11]; exact hg) (by rw [hD]; simpa using hm)
          have hws : ∀ (v : Value) n xs, w.ownsRow w0.heap.size 4 1 v n xs → w2.ownsRow w0.heap.size 4 1 v n xs := fun v n xs q => ho.owns q fun g hg hm => by
            obtain ⟨cur, k⟩ := owns_blk q hg
            exact hbo g hm cur k
          have hsep2 : ∀ g, (cond (D 11) (u 37) vL).ownBlock = some g → v2.ownBlock ≠ some g := fun g h2 h1 => by
            rw [d11] at h2
            rcases hq2 g h1 with h3 | h3
            · exact hW.sep g (by rw [d11]; exact h2) (by rw [hD]; exact h3)
            · obtain ⟨vs, h5, _⟩ := hW.l1 d11
              obtain ⟨cur, k⟩ := owns_blk h5 h2
              have := k.lt
              omega
          exact ⟨upd u 46 v2, rfl, ⟨fun h => hT.s0 h, fun h => hT.s1 h, fun h => hT.s2 h, fun h => hT.s3 h, fun h => hT.s4 h, fun h => hT.s5 h, fun h => hT.s6 h, fun h => hT.s8 h, fun h => hT.s12 h, fun h => hT.s13 h, fun h => hT.s14 h, fun h => hT.s15 h, fun h => hT.s17 h, fun h => hT.s21 h, fun h => hT.s22 h, fun h => hT.s23 h, fun h => hT.s24 h, fun h => hT.s27 h, fun h => hT.s28 h, fun h => hT.s30 h, fun h => hT.s31 h, fun h => hT.s33 h, fun h => hT.s34 h⟩, ⟨(by have h := ho.blk hW.blk hyn; rw [n32] at h; show Blk _ _ _ #[_, cond (D 32) v2 vK, _, _, _, _]; rw [n32]; exact h), (hW.bel.trans hb2), (fun q => by rw [show D 11 = false from q] at d11; cases d11), (fun q => (hW.l1 q).keepR ho h8 hsp), (fun q => by cases q), (fun _ => hx), (fun q => hws _ _ _ (hW.w0 q)), (fun q => hws _ _ _ (hW.w1 q)), (hsep2), hW.a7, (fun q => (hW.a9 q).only ho h8), (fun _ q => by rw [show D 11 = false from q] at d11; cases d11), hW.a16, (fun q => (hW.a18 q).only ho h8), (fun _ q => by cases q), (fun q r => by obtain ⟨b2, e2, k2⟩ := hW.a25 q r; exact ⟨b2, e2, ho.blk k2 (fun hm => hbo _ hm _ k2)⟩)⟩⟩
        · refine wpOp_plain rfl rfl ?_
          go_simp
          exact ⟨upd u 47 (.pointer (some ⟨w0.heap.size, 0, none⟩)), rfl, ⟨fun h => hT.s0 h, fun h => hT.s1 h, fun h => hT.s2 h, fun h => hT.s3 h, fun h => hT.s4 h, fun h => hT.s5 h, fun h => hT.s6 h, fun h => hT.s8 h, fun h => hT.s12 h, fun h => hT.s13 h, fun h => hT.s14 h, fun h => hT.s15 h, fun h => hT.s17 h, fun _ => rfl, fun h => hT.s22 h, fun h => hT.s23 h, fun h => hT.s24 h, fun h => hT.s27 h, fun h => hT.s28 h, fun h => hT.s30 h, fun h => hT.s31 h, fun h => hT.s33 h, fun h => hT.s34 h⟩, ⟨hW.blk, hW.bel, hW.l0, hW.l1, hW.k0, hW.k1, hW.w0, hW.w1, hW.sep, hW.a7, hW.a9, hW.a10, hW.a16, hW.a18, hW.a19, hW.a25⟩⟩
        · have d21 : D 21 = true := hn 21 (needs_b (by kernel_rfl))
          have e47 := hT.s21 d21
          refine wpOp_plain rfl rfl ?_
          go_simp
          exact ⟨upd u 48 (.pointer (some ⟨w0.heap.size, 0, none⟩)), by first | rfl | simp [upd, e47], ⟨fun h => hT.s0 h, fun h => hT.s1 h, fun h => hT.s2 h, fun h => hT.s3 h, fun h => hT.s4 h, fun h => hT.s5 h, fun h => hT.s6 h, fun h => hT.s8 h, fun h => hT.s12 h, fun h => hT.s13 h, fun h => hT.s14 h, fun h => hT.s15 h, fun h => hT.s17 h, fun h => hT.s21 h, fun _ => rfl, fun h => hT.s23 h, fun h => hT.s24 h, fun h => hT.s27 h, fun h => hT.s28 h, fun h => hT.s30 h, fun h => hT.s31 h, fun h => hT.s33 h, fun h => hT.s34 h⟩, ⟨hW.blk, hW.bel, hW.l0, hW.l1, hW.k0, hW.k1, hW.w0, hW.w1, hW.sep, hW.a7, hW.a9, hW.a10, hW.a16, hW.a18, hW.a19, hW.a25⟩⟩
        · have d22 : D 22 = true := hn 22 (needs_b (by kernel_rfl))
          have e48 := hT.s22 d22
          refine wpOp_plain rfl rfl ?_
          go_simp
          exact ⟨upd u 49 (.pointer (some ⟨w0.heap.size, 2, none⟩)), by first | rfl | simp [upd, e48], ⟨fun h => hT.s0 h, fun h => hT.s1 h, fun h => hT.s2 h, fun h => hT.s3 h, fun h => hT.s4 h, fun h => hT.s5 h, fun h => hT.s6 h, fun h => hT.s8 h, fun h => hT.s12 h, fun h => hT.s13 h, fun h => hT.s14 h, fun h => hT.s15 h, fun h => hT.s17 h, fun h => hT.s21 h, fun h => hT.s22 h, fun _ => rfl, fun h => hT.s24 h, fun h => hT.s27 h, fun h => hT.s28 h, fun h => hT.s30 h, fun h => hT.s31 h, fun h => hT.s33 h, fun h => hT.s34 h⟩, ⟨hW.blk, hW.bel, hW.l0, hW.l1, hW.k0, hW.k1, hW.w0, hW.w1, hW.sep, hW.a7, hW.a9, hW.a10, hW.a16, hW.a18, hW.a19, hW.a25⟩⟩
        · have d23 : D 23 = true := hn 23 (needs_b (by kernel_rfl))
          have e49 := hT.s23 d23
          have n1 : D 35 = false := by
            cases q : D 35 with
            | false => rfl
            | true => have := hcl 26 24 (hcl 35 26 q (needs_b (by kernel_rfl))) (needs_b (by kernel_rfl)); rw [hD] at this; cases this
          have c0 : w.cell? ⟨w0.heap.size, 2, none⟩ = some vW := (hW.blk.cell 2).trans (by simp [n1])
          refine wpOp_plain rfl rfl ?_
          go_simp
          exact ⟨upd u 50 (vW), by first | rfl | simp [upd, e49], ⟨fun h => hT.s0 h, fun h => hT.s1 h, fun h => hT.s2 h, fun h => hT.s3 h, fun h => hT.s4 h, fun h => hT.s5 h, fun h => hT.s6 h, fun h => hT.s8 h, fun h => hT.s12 h, fun h => hT.s13 h, fun h => hT.s14 h, fun h => hT.s15 h, fun h => hT.s17 h, fun h => hT.s21 h, fun h => hT.s22 h, fun h => hT.s23 h, fun _ => rfl, fun h => hT.s27 h, fun h => hT.s28 h, fun h => hT.s30 h, fun h => hT.s31 h, fun h => hT.s33 h, fun h => hT.s34 h⟩, ⟨hW.blk, hW.bel, hW.l0, hW.l1, hW.k0, hW.k1, hW.w0, hW.w1, hW.sep, hW.a7, hW.a9, hW.a10, hW.a16, hW.a18, hW.a19, hW.a25⟩⟩
        · refine wpOp_plain rfl rfl ?_
          go_simp
          have hb2 : Below w.heap.size w (w.alloc (.cells #[.bool false] 4)) := (Below.refl _ _).alloc (Nat.le_refl _) _
          have kb := Blk.new w 4 #[.bool false]
          have hW := hW.below hb2
          exact ⟨upd u 51 (.slice (some ⟨w.heap.size, 0, none⟩) 1 1), rfl, ⟨fun h => hT.s0 h, fun h => hT.s1 h, fun h => hT.s2 h, fun h => hT.s3 h, fun h => hT.s4 h, fun h => hT.s5 h, fun h => hT.s6 h, fun h => hT.s8 h, fun h => hT.s12 h, fun h => hT.s13 h, fun h => hT.s14 h, fun h => hT.s15 h, fun h => hT.s17 h, fun h => hT.s21 h, fun h => hT.s22 h, fun h => hT.s23 h, fun h => hT.s24 h, fun h => hT.s27 h, fun h => hT.s28 h, fun h => hT.s30 h, fun h => hT.s31 h, fun h => hT.s33 h, fun h => hT.s34 h⟩, ⟨hW.blk, hW.bel, hW.l0, hW.l1, hW.k0, hW.k1, hW.w0, hW.w1, hW.sep, hW.a7, hW.a9, hW.a10, hW.a16, hW.a18, hW.a19, (fun _ _ => ⟨w.heap.size, rfl, kb⟩)⟩⟩
        · have d24 : D 24 = true := hn 24 (needs_b (by kernel_rfl))
          have d25 : D 25 = true := hn 25 (needs_b (by kernel_rfl))
          have e50 := hT.s24 d24
          obtain ⟨b, e51, kb⟩ := hW.a25 d25 hD
          have hOL := hW.w0 hD
          have n35 : D 35 = false := by
            cases q : D 35 with
            | false => rfl
            | true => have := hcl 35 26 q (needs_b (by kernel_rfl)); rw [hD] at this; cases this
          refine wpOp_step rfl rfl (step_append_false rfl (.tmp 50) (.tmp 51) rfl w0.heap.size vW k _ e50 hOL b e51 (kb.cell 0) (by omega) hW.bel.size ?_)
          intro v2 w2 hx hg2
          have ho := Only.of_grownO hg2
          have hb2 : Below w0.heap.size w w2 := (Below.refl _ _).grown hg2 hW.bel.size (fun k hk => (hOL.lt k hk).1)
          have typ : ∀ g ∈ vW.ownBlock.toList, ∃ cur, Blk w g 4 cur := fun g hg => owns_blk hOL (by simpa using hg)
          have h8 : ∀ g ∈ vW.ownBlock.toList, ∀ cur, ¬ Blk w g 5 cur ∧ ¬ Blk w g 26 cur := fun g hg cur => by
            obtain ⟨cur2, k2⟩ := typ g hg
            exact ⟨fun e => Blk.ne_ e k2 (by decide) rfl, fun e => Blk.ne_ e k2 (by decide) rfl⟩
          have hyn : w0.heap.size ∉ vW.ownBlock.toList := fun hm => by
            obtain ⟨cur2, k2⟩ := typ _ hm
            exact Blk.ne_ hW.blk k2 (by decide) rfl
          exact ⟨upd u 52 v2, rfl, ⟨fun h => hT.s0 h, fun h => hT.s1 h, fun h => hT.s2 h, fun h => hT.s3 h, fun h => hT.s4 h, fun h => hT.s5 h, fun h => hT.s6 h, fun h => hT.s8 h, fun h => hT.s12 h, fun h => hT.s13 h, fun h => hT.s14 h, fun h => hT.s15 h, fun h => hT.s17 h, fun h => hT.s21 h, fun h => hT.s22 h, fun h => hT.s23 h, fun h => hT.s24 h, fun h => hT.s27 h, fun h => hT.s28 h, fun h => hT.s30 h, fun h => hT.s31 h, fun h => hT.s33 h, fun h => hT.s34 h⟩, ⟨(by have h := ho.blk hW.blk hyn; rw [n35] at h; show Blk _ _ _ #[_, _, cond (D 35) v2 vW, _, _, _]; rw [n35]; exact h), (hW.bel.trans hb2), (fun q => (hW.l0 q).only ho h8), (fun q => (hW.l1 q).only ho h8), (fun q => (hW.k0 q).only ho h8), (fun q => (hW.k1 q).only ho h8), (fun q => by cases q), (fun _ => hx), hW.sep, hW.a7, (fun q => (hW.a9 q).only ho fun g hg cur => (h8 g hg cur).1), (fun q r => by obtain ⟨b2, e2, k2⟩ := hW.a10 q r; exact ⟨b2, e2, ho.blk k2 (fun hm => (h8 _ hm _).2 k2)⟩), hW.a16, (fun q => (hW.a18 q).only ho fun g hg cur => (h8 g hg cur).1), (fun q r => by obtain ⟨b2, e2, k2⟩ := hW.a19 q r; exact ⟨b2, e2, ho.blk k2 (fun hm => (h8 _ hm _).2 k2)⟩), (fun _ q => by cases q)⟩⟩
        · have d0 : D 0 = true := hn 0 (needs_b (by kernel_rfl))
          have e26 := hT.s0 d0
          refine wpOp_plain rfl rfl ?_
          go_simp
          exact ⟨upd u 53 (.pointer (some ⟨w0.heap.size, 0, none⟩)), by first | rfl | simp [upd, e26], ⟨fun h => hT.s0 h, fun h => hT.s1 h, fun h => hT.s2 h, fun h => hT.s3 h, fun h => hT.s4 h, fun h => hT.s5 h, fun h => hT.s6 h, fun h => hT.s8 h, fun h => hT.s12 h, fun h => hT.s13 h, fun h => hT.s14 h, fun h => hT.s15 h, fun h => hT.s17 h, fun h => hT.s21 h, fun h => hT.s22 h, fun h => hT.s23 h, fun h => hT.s24 h, fun _ => rfl, fun h => hT.s28 h, fun h => hT.s30 h, fun h => hT.s31 h, fun h => hT.s33 h, fun h => hT.s34 h⟩, ⟨hW.blk, hW.bel, hW.l0, hW.l1, hW.k0, hW.k1, hW.w0, hW.w1, hW.sep, hW.a7, hW.a9, hW.a10, hW.a16, hW.a18, hW.a19, hW.a25⟩⟩
        · have d27 : D 27 = true := hn 27 (needs_b (by kernel_rfl))
          have e53 := hT.s27 d27
          refine wpOp_plain rfl rfl ?_
          go_simp
          exact ⟨upd u 54 (.pointer (some ⟨w0.heap.size, 0, none⟩)), by first | rfl | simp [upd, e53], ⟨fun h => hT.s0 h, fun h => hT.s1 h, fun h => hT.s2 h, fun h => hT.s3 h, fun h => hT.s4 h, fun h => hT.s5 h, fun h => hT.s6 h, fun h => hT.s8 h, fun h => hT.s12 h, fun h => hT.s13 h, fun h => hT.s14 h, fun h => hT.s15 h, fun h => hT.s17 h, fun h => hT.s21 h, fun h => hT.s22 h, fun h => hT.s23 h, fun h => hT.s24 h, fun h => hT.s27 h, fun _ => rfl, fun h => hT.s30 h, fun h => hT.s31 h, fun h => hT.s33 h, fun h => hT.s34 h⟩, ⟨hW.blk, hW.bel, hW.l0, hW.l1, hW.k0, hW.k1, hW.w0, hW.w1, hW.sep, hW.a7, hW.a9, hW.a10, hW.a16, hW.a18, hW.a19, hW.a25⟩⟩
        · have d28 : D 28 = true := hn 28 (needs_b (by kernel_rfl))
          have d11 : D 11 = true := hn 11 (needs_b (by kernel_rfl))
          have e54 := hT.s28 d28
          obtain ⟨xa, xn, xc, e37⟩ : ∃ a n c, u 37 = Value.slice a n c := by obtain ⟨a, c, e⟩ := (hW.l1 d11).val; exact ⟨_, _, _, e⟩
          have c0 : w.cell? ⟨w0.heap.size, 0, none⟩ = some vL := (hW.blk.cell 0).trans (by simp [hD])
          have f0 := hW.blk.frozen 0
          have ho : Only [w0.heap.size] w (w.setCell ⟨w0.heap.size, 0, none⟩ (.slice xa xn xc)) := Only.setCell _ _ (by simp) _
          have hbk := hW.blk.set_ 0 (.slice xa xn xc)
          have h8 : ∀ g ∈ [w0.heap.size], ∀ cur, ¬ Blk w g 5 cur ∧ ¬ Blk w g 26 cur := fun g hg cur => by
            obtain rfl : g = w0.heap.size := by simpa using hg
            exact ⟨fun e => Blk.ne_ e hW.blk (by decide) rfl, fun e => Blk.ne_ e hW.blk (by decide) rfl⟩
          have hws : ∀ (v : Value) n xs, w.ownsRow w0.heap.size 4 1 v n xs → (w.setCell ⟨w0.heap.size, 0, none⟩ (.slice xa xn xc)).ownsRow w0.heap.size 4 1 v n xs := fun v n xs q => ho.owns q fun g hg hm => by
            obtain ⟨cur, k⟩ := owns_blk q hg
            obtain rfl : g = w0.heap.size := by simpa using hm
            exact Blk.ne_ k hW.blk (by decide) rfl
          refine wpOp_plain rfl rfl ?_
          go_simp
          exact ⟨u, by first | rfl | simp [e54, e37], ⟨fun h => hT.s0 h, fun h => hT.s1 h, fun h => hT.s2 h, fun h => hT.s3 h, fun h => hT.s4 h, fun h => hT.s5 h, fun h => hT.s6 h, fun h => hT.s8 h, fun h => hT.s12 h, fun h => hT.s13 h, fun h => hT.s14 h, fun h => hT.s15 h, fun h => hT.s17 h, fun h => hT.s21 h, fun h => hT.s22 h, fun h => hT.s23 h, fun h => hT.s24 h, fun h => hT.s27 h, fun h => hT.s28 h, fun h => hT.s30 h, fun h => hT.s31 h, fun h => hT.s33 h, fun h => hT.s34 h⟩, ⟨(by show Blk _ _ _ #[u 37, cond (D 32) (u 46) vK, cond (D 35) (u 52) vW, .int .i64 (-1), .bool false, .int .i64 0]; rw [e37]; exact hbk), (Only.belowOf hW.bel ho hW.bel.size (by simp)), (fun q => (hW.l0 q).only ho h8), (fun q => (hW.l1 q).only ho h8), (fun q => (hW.k0 q).only ho h8), (fun q => (hW.k1 q).only ho h8), (fun q => hws _ _ _ (hW.w0 q)), (fun q => hws _ _ _ (hW.w1 q)), hW.sep, hW.a7, (fun q => (hW.a9 q).only ho fun g hg cur => (h8 g hg cur).1), (fun q r => by obtain ⟨b2, e2, k2⟩ := hW.a10 q r; exact ⟨b2, e2, ho.blk k2 (fun hm => (h8 _ hm _).2 k2)⟩), hW.a16, (fun q => (hW.a18 q).only ho fun g hg cur => (h8 g hg cur).1), (fun q r => by obtain ⟨b2, e2, k2⟩ := hW.a19 q r; exact ⟨b2, e2, ho.blk k2 (fun hm => (h8 _ hm _).2 k2)⟩), (fun q r => by obtain ⟨b2, e2, k2⟩ := hW.a25 q r; exact ⟨b2, e2, ho.blk k2 (fun hm => by obtain rfl : b2 = w0.heap.size := (by simpa using hm); exact Blk.ne_ k2 hW.blk (by decide) rfl)⟩)⟩⟩
        · have d1 : D 1 = true := hn 1 (needs_b (by kernel_rfl))
          have e27 := hT.s1 d1
          refine wpOp_plain rfl rfl ?_
          go_simp
          exact ⟨upd u 55 (.pointer (some ⟨w0.heap.size, 0, none⟩)), by first | rfl | simp [upd, e27], ⟨fun h => hT.s0 h, fun h => hT.s1 h, fun h => hT.s2 h, fun h => hT.s3 h, fun h => hT.s4 h, fun h => hT.s5 h, fun h => hT.s6 h, fun h => hT.s8 h, fun h => hT.s12 h, fun h => hT.s13 h, fun h => hT.s14 h, fun h => hT.s15 h, fun h => hT.s17 h, fun h => hT.s21 h, fun h => hT.s22 h, fun h => hT.s23 h, fun h => hT.s24 h, fun h => hT.s27 h, fun h => hT.s28 h, fun _ => rfl, fun h => hT.s31 h, fun h => hT.s33 h, fun h => hT.s34 h⟩, ⟨hW.blk, hW.bel, hW.l0, hW.l1, hW.k0, hW.k1, hW.w0, hW.w1, hW.sep, hW.a7, hW.a9, hW.a10, hW.a16, hW.a18, hW.a19, hW.a25⟩⟩
        · have d30 : D 30 = true := hn 30 (needs_b (by kernel_rfl))
          have e55 := hT.s30 d30
          refine wpOp_plain rfl rfl ?_
          go_simp
          exact ⟨upd u 56 (.pointer (some ⟨w0.heap.size, 1, none⟩)), by first | rfl | simp [upd, e55], ⟨fun h => hT.s0 h, fun h => hT.s1 h, fun h => hT.s2 h, fun h => hT.s3 h, fun h => hT.s4 h, fun h => hT.s5 h, fun h => hT.s6 h, fun h => hT.s8 h, fun h => hT.s12 h, fun h => hT.s13 h, fun h => hT.s14 h, fun h => hT.s15 h, fun h => hT.s17 h, fun h => hT.s21 h, fun h => hT.s22 h, fun h => hT.s23 h, fun h => hT.s24 h, fun h => hT.s27 h, fun h => hT.s28 h, fun h => hT.s30 h, fun _ => rfl, fun h => hT.s33 h, fun h => hT.s34 h⟩, ⟨hW.blk, hW.bel, hW.l0, hW.l1, hW.k0, hW.k1, hW.w0, hW.w1, hW.sep, hW.a7, hW.a9, hW.a10, hW.a16, hW.a18, hW.a19, hW.a25⟩⟩
        · have d31 : D 31 = true := hn 31 (needs_b (by kernel_rfl))
          have d20 : D 20 = true := hn 20 (needs_b (by kernel_rfl))
          have e56 := hT.s31 d31
          obtain ⟨xa, xn, xc, e46⟩ : ∃ a n c, u 46 = Value.slice a n c := by obtain ⟨a, c, e⟩ := (hW.k1 d20).val; exact ⟨_, _, _, e⟩
          have c0 : w.cell? ⟨w0.heap.size, 1, none⟩ = some vK := (hW.blk.cell 1).trans (by simp [hD])
          have f0 := hW.blk.frozen 1
          have ho : Only [w0.heap.size] w (w.setCell ⟨w0.heap.size, 1, none⟩ (.slice xa xn xc)) := Only.setCell _ _ (by simp) _
          have hbk := hW.blk.set_ 1 (.slice xa xn xc)
          have h8 : ∀ g ∈ [w0.heap.size], ∀ cur, ¬ Blk w g 5 cur ∧ ¬ Blk w g 26 cur := fun g hg cur => by
            obtain rfl : g = w0.heap.size := by simpa using hg
            exact ⟨fun e => Blk.ne_ e hW.blk (by decide) rfl, fun e => Blk.ne_ e hW.blk (by decide) rfl⟩
          have hws : ∀ (v : Value) n xs, w.ownsRow w0.heap.size 4 1 v n xs → (w.setCell ⟨w0.heap.size, 1, none⟩ (.slice xa xn xc)).ownsRow w0.heap.size 4 1 v n xs := fun v n xs q => ho.owns q fun g hg hm => by
            obtain ⟨cur, k⟩ := owns_blk q hg
            obtain rfl : g = w0.heap.size := by simpa using hm
            exact Blk.ne_ k hW.blk (by decide) rfl
          refine wpOp_plain rfl rfl ?_
          go_simp
          exact ⟨u, by first | rfl | simp [e56, e46], ⟨fun h => hT.s0 h, fun h => hT.s1 h, fun h => hT.s2 h, fun h => hT.s3 h, fun h => hT.s4 h, fun h => hT.s5 h, fun h => hT.s6 h, fun h => hT.s8 h, fun h => hT.s12 h, fun h => hT.s13 h, fun h => hT.s14 h, fun h => hT.s15 h, fun h => hT.s17 h, fun h => hT.s21 h, fun h => hT.s22 h, fun h => hT.s23 h, fun h => hT.s24 h, fun h => hT.s27 h, fun h => hT.s28 h, fun h => hT.s30 h, fun h => hT.s31 h, fun h => hT.s33 h, fun h => hT.s34 h⟩, ⟨(by show Blk _ _ _ #[cond (D 29) (u 37) vL, u 46, cond (D 35) (u 52) vW, .int .i64 (-1), .bool false, .int .i64 0]; rw [e46]; exact hbk), (Only.belowOf hW.bel ho hW.bel.size (by simp)), (fun q => (hW.l0 q).only ho h8), (fun q => (hW.l1 q).only ho h8), (fun q => (hW.k0 q).only ho h8), (fun q => (hW.k1 q).only ho h8), (fun q => hws _ _ _ (hW.w0 q)), (fun q => hws _ _ _ (hW.w1 q)), hW.sep, hW.a7, (fun q => (hW.a9 q).only ho fun g hg cur => (h8 g hg cur).1), (fun q r => by obtain ⟨b2, e2, k2⟩ := hW.a10 q r; exact ⟨b2, e2, ho.blk k2 (fun hm => (h8 _ hm _).2 k2)⟩), hW.a16, (fun q => (hW.a18 q).only ho fun g hg cur => (h8 g hg cur).1), (fun q r => by obtain ⟨b2, e2, k2⟩ := hW.a19 q r; exact ⟨b2, e2, ho.blk k2 (fun hm => (h8 _ hm _).2 k2)⟩), (fun q r => by obtain ⟨b2, e2, k2⟩ := hW.a25 q r; exact ⟨b2, e2, ho.blk k2 (fun hm => by obtain rfl : b2 = w0.heap.size := (by simpa using hm); exact Blk.ne_ k2 hW.blk (by decide) rfl)⟩)⟩⟩
        · have d2 : D 2 = true := hn 2 (needs_b (by kernel_rfl))
          have e28 := hT.s2 d2
          refine wpOp_plain rfl rfl ?_
          go_simp
          exact ⟨upd u 57 (.pointer (some ⟨w0.heap.size, 0, none⟩)), by first | rfl | simp [upd, e28], ⟨fun h => hT.s0 h, fun h => hT.s1 h, fun h => hT.s2 h, fun h => hT.s3 h, fun h => hT.s4 h, fun h => hT.s5 h, fun h => hT.s6 h, fun h => hT.s8 h, fun h => hT.s12 h, fun h => hT.s13 h, fun h => hT.s14 h, fun h => hT.s15 h, fun h => hT.s17 h, fun h => hT.s21 h, fun h => hT.s22 h, fun h => hT.s23 h, fun h => hT.s24 h, fun h => hT.s27 h, fun h => hT.s28 h, fun h => hT.s30 h, fun h => hT.s31 h, fun _ => rfl, fun h => hT.s34 h⟩, ⟨hW.blk, hW.bel, hW.l0, hW.l1, hW.k0, hW.k1, hW.w0, hW.w1, hW.sep, hW.a7, hW.a9, hW.a10, hW.a16, hW.a18, hW.a19, hW.a25⟩⟩
        · have d33 : D 33 = true := hn 33 (needs_b (by kernel_rfl))
          have e57 := hT.s33 d33
          refine wpOp_plain rfl rfl ?_
          go_simp
          exact ⟨upd u 58 (.pointer (some ⟨w0.heap.size, 2, none⟩)), by first | rfl | simp [upd, e57], ⟨fun h => hT.s0 h, fun h => hT.s1 h, fun h => hT.s2 h, fun h => hT.s3 h, fun h => hT.s4 h, fun h => hT.s5 h, fun h => hT.s6 h, fun h => hT.s8 h, fun h => hT.s12 h, fun h => hT.s13 h, fun h => hT.s14 h, fun h => hT.s15 h, fun h => hT.s17 h, fun h => hT.s21 h, fun h => hT.s22 h, fun h => hT.s23 h, fun h => hT.s24 h, fun h => hT.s27 h, fun h => hT.s28 h, fun h => hT.s30 h, fun h => hT.s31 h, fun h => hT.s33 h, fun _ => rfl⟩, ⟨hW.blk, hW.bel, hW.l0, hW.l1, hW.k0, hW.k1, hW.w0, hW.w1, hW.sep, hW.a7, hW.a9, hW.a10, hW.a16, hW.a18, hW.a19, hW.a25⟩⟩
        · have d34 : D 34 = true := hn 34 (needs_b (by kernel_rfl))
          have d26 : D 26 = true := hn 26 (needs_b (by kernel_rfl))
          have e58 := hT.s34 d34
          obtain ⟨xa, xn, xc, e52⟩ := (Sl.of_owns (hW.w1 d26)).val
          have c0 : w.cell? ⟨w0.heap.size, 2, none⟩ = some vW := (hW.blk.cell 2).trans (by simp [hD])
          have f0 := hW.blk.frozen 2
          have ho : Only [w0.heap.size] w (w.setCell ⟨w0.heap.size, 2, none⟩ (.slice xa xn xc)) := Only.setCell _ _ (by simp) _
          have hbk := hW.blk.set_ 2 (.slice xa xn xc)
          have h8 : ∀ g ∈ [w0.heap.size], ∀ cur, ¬ Blk w g 5 cur ∧ ¬ Blk w g 26 cur := fun g hg cur => by
            obtain rfl : g = w0.heap.size := by simpa using hg
            exact ⟨fun e => Blk.ne_ e hW.blk (by decide) rfl, fun e => Blk.ne_ e hW.blk (by decide) rfl⟩
          have hws : ∀ (v : Value) n xs, w.ownsRow w0.heap.size 4 1 v n xs → (w.setCell ⟨w0.heap.size, 2, none⟩ (.slice xa xn xc)).ownsRow w0.heap.size 4 1 v n xs := fun v n xs q => ho.owns q fun g hg hm => by
            obtain ⟨cur, k⟩ := owns_blk q hg
            obtain rfl : g = w0.heap.size := by simpa using hm
            exact Blk.ne_ k hW.blk (by decide) rfl
          refine wpOp_plain rfl rfl ?_
          go_simp
          exact ⟨u, by first | rfl | simp [e58, e52], ⟨fun h => hT.s0 h, fun h => hT.s1 h, fun h => hT.s2 h, fun h => hT.s3 h, fun h => hT.s4 h, fun h => hT.s5 h, fun h => hT.s6 h, fun h => hT.s8 h, fun h => hT.s12 h, fun h => hT.s13 h, fun h => hT.s14 h, fun h => hT.s15 h, fun h => hT.s17 h, fun h => hT.s21 h, fun h => hT.s22 h, fun h => hT.s23 h, fun h => hT.s24 h, fun h => hT.s27 h, fun h => hT.s28 h, fun h => hT.s30 h, fun h => hT.s31 h, fun h => hT.s33 h, fun h => hT.s34 h⟩, ⟨(by show Blk _ _ _ #[cond (D 29) (u 37) vL, cond (D 32) (u 46) vK, u 52, .int .i64 (-1), .bool false, .int .i64 0]; rw [e52]; exact hbk), (Only.belowOf hW.bel ho hW.bel.size (by simp)), (fun q => (hW.l0 q).only ho h8), (fun q => (hW.l1 q).only ho h8), (fun q => (hW.k0 q).only ho h8), (fun q => (hW.k1 q).only ho h8), (fun q => hws _ _ _ (hW.w0 q)), (fun q => hws _ _ _ (hW.w1 q)), hW.sep, hW.a7, (fun q => (hW.a9 q).only ho fun g hg cur => (h8 g hg cur).1), (fun q r => by obtain ⟨b2, e2, k2⟩ := hW.a10 q r; exact ⟨b2, e2, ho.blk k2 (fun hm => (h8 _ hm _).2 k2)⟩), hW.a16, (fun q => (hW.a18 q).only ho fun g hg cur => (h8 g hg cur).1), (fun q r => by obtain ⟨b2, e2, k2⟩ := hW.a19 q r; exact ⟨b2, e2, ho.blk k2 (fun hm => (h8 _ hm _).2 k2)⟩), (fun q r => by obtain ⟨b2, e2, k2⟩ := hW.a25 q r; exact ⟨b2, e2, ho.blk k2 (fun hm => by obtain rfl : b2 = w0.heap.size := (by simpa using hm); exact Blk.ne_ k2 hW.blk (by decide) rfl)⟩)⟩⟩
      case fin =>
        intro D a w hI hall
        obtain ⟨u, rfl, hT, hW⟩ := hI
        have hbk := hW.blk
        rw [hall 29 (by decide), hall 32 (by decide), hall 35 (by decide)] at hbk
        have hl1 := hW.l1 (hall 11 (by decide))
        have hk1 := hW.k1 (hall 20 (by decide))
        have hw1 := hW.w1 (hall 26 (by decide))
        have hsp := hW.sep
        rw [hall 11 (by decide), hall 20 (by decide)] at hsp
        rw [ht] at hl1 hk1
        have hrep : List.replicate k (Value.bool false) ++ [.bool false] = List.replicate (k + 1) (.bool false) := by rw [List.replicate_succ']
        rw [hrep] at hw1
        have HF := Lib.hid (show Blk w w0.heap.size 92 #[u 37, u 46, u 52, .int .i64 (-1), .bool false, .int .i64 0] ∧ OBs w w0.heap.size (u 37) (pss.take (k + 1)) ∧ OBs w w0.heap.size (u 46) (pss.take (k + 1)) ∧ w.ownsRow w0.heap.size 4 1 (u 52) (k + 1) (List.replicate (k + 1) (.bool false)) ∧ (∀ g, (u 37).ownBlock = some g → (u 46).ownBlock ≠ some g) ∧ Below w0.heap.size w0 w from ⟨hbk, hl1, hk1, hw1, hsp, hW.bel⟩)
        clear hbk hl1 hk1 hw1 hsp hW hT hrep hall
        go_wp2
        exact ⟨⟨k + 1, u 37, u 46, u 52, hlt, by go_num, HF.out⟩, by simp [intOf]; omega⟩
    · obtain rfl : k = pss.length := by omega
      have hkI : ¬ (pss.length : Int) < (pss.length : Int) := by omega
      rw [List.take_length] at hL hK
      obtain ⟨gl, cl, rfl, g1, g2, r1⟩ := hL.trow h1
      obtain ⟨gk, ck, rfl, g3, g4, r2⟩ := hK.trow h1
      obtain ⟨gw, cw, rfl, g5, g6, r3⟩ := brow_own hW h1
      have hne : gl ≠ gk := fun e => hsep gl rfl (by rw [e]; rfl)
      have e1 : (ofD pss).l.length = pss.length := by simp [ofD]
      have HF := Lib.hid (show RDev wr w0.heap.size gl gk gw (ofD pss) from by
        refine ⟨⟨cl, ck, cw, by rw [e1]; exact g2, by rw [e1]; exact g4, by rw [e1]; exact g6, by rw [e1]; exact hY⟩, ?_, ?_, ?_, hne, by rw [e1]; exact ⟨h1, h2⟩, (fun q => by cases q), ?_⟩
        · rw [show (ofD pss).l.map Sec.now = pss from by simp [ofD, Function.comp_def]]; exact r1
        · rw [show (ofD pss).l.map Sec.kept = pss from by simp [ofD, Function.comp_def]]; exact r2
        · rw [show (ofD pss).l.map Sec.waits = List.replicate pss.length false from by simp [ofD, Function.comp_def, List.map_const']]; exact r3
        · intro s hs
          obtain ⟨p, hp, rfl⟩ := List.mem_map.1 hs
          have hh := HH.out p hp
          exact ⟨hh.1, hh.1, hh.2, hh.2, fun _ => rfl⟩)
      have HB := Lib.hid hb
      have HN := Lib.hid (show w0.heap.size ≤ w0.heap.size ∧ w0.heap.size ≤ gl ∧ w0.heap.size ≤ gk ∧ w0.heap.size ≤ gw from ⟨Nat.le_refl _, g1, g3, g5⟩)
      clear hY hL hK hW hsep hb r1 r2 r3
      go_wp2
      go_ret2
      exact ⟨_, rfl, gl, gk, gw, HN.out, HF.out, HB.out⟩

end Go.Proofs.YtgfkejecigefbaaDoor

namespace Go.Proofs.YtgfkejecigefbaaDoor
open Go.RowKit
set_option linter.unusedVariables false

theorem cell3 {w : World} {g : Nat} {t : TypeId} {x0 x1 x2 : Value} (k : Blk w g t #[x0, x1, x2]) :
    w.cell? ⟨g, 0, none⟩ = some x0 ∧ w.cell? ⟨g, 1, none⟩ = some x1 ∧ w.cell? ⟨g, 2, none⟩ = some x2 := ⟨k.cell 0, k.cell 1, k.cell 2⟩
/-- A step: what is done, a number, bytes. -/
abbrev Stp := Int × Int × List Int
def StpV (w : World) (v : Value) (p : Stp) : Prop := ∃ u, v = .agg #[.int .i64 p.1, .int .i64 p.2.1, u] ∧ Sl w u (p.2.2.map (Value.int .u8))
def StpB (p : Stp) : Prop := (-9223372036854775808 ≤ p.1 ∧ p.1 ≤ 9223372036854775807) ∧ (-9223372036854775808 ≤ p.2.1 ∧ p.2.1 ≤ 9223372036854775807) ∧ IsB p.2.2
/-- The value is a slice of steps. -/
def Stps (w : World) (v : Value) (l : List Stp) : Prop :=
  ∃ a cap, v = .slice a l.length cap ∧ l.length ≤ cap ∧ cap ≤ maxLen ∧ (0 < l.length → ∃ b off, a = some ⟨b, off, none⟩ ∧ b < w.heap.size ∧
    ∀ i p, l[i]? = some p → ∃ u, w.cell? ⟨b, off + i * 3, none⟩ = some (.int .i64 p.1) ∧ w.cell? ⟨b, off + i * 3 + 1, none⟩ = some (.int .i64 p.2.1) ∧ w.cell? ⟨b, off + i * 3 + 2, none⟩ = some u ∧ Sl w u (p.2.2.map (Value.int .u8)))
theorem StpV.below {w w' : World} {v : Value} {p : Stp} (h : StpV w v p) {B : Nat} (hb : Below B w w') (hB : w.heap.size ≤ B) : StpV w' v p := by
  obtain ⟨u, rfl, h2⟩ := h
  exact ⟨u, rfl, h2.below hb hB⟩
theorem Stps.below {w w' : World} {v : Value} {l : List Stp} (h : Stps w v l) {B : Nat} (hb : Below B w w') (hB : w.heap.size ≤ B) : Stps w' v l := by
  obtain ⟨a, cap, rfl, h1, h2, h3⟩ := h
  refine ⟨a, cap, rfl, h1, h2, fun hp => ?_⟩
  obtain ⟨b, off, rfl, hlt, hc⟩ := h3 hp
  have := hb.size
  refine ⟨b, off, rfl, by omega, fun i p hi => ?_⟩
  obtain ⟨u, c1, c2, c3, s⟩ := hc i p hi
  exact ⟨u, (hb.cell (p := ⟨b, off + i * 3, none⟩) (by show b < B; omega)).trans c1, (hb.cell (p := ⟨b, off + i * 3 + 1, none⟩) (by show b < B; omega)).trans c2, (hb.cell (p := ⟨b, off + i * 3 + 2, none⟩) (by show b < B; omega)).trans c3, s.below hb hB⟩
theorem Stps.shape {w : World} {v : Value} {l : List Stp} (h : Stps w v l) : ∃ a cap, v = .slice a l.length cap ∧ l.length ≤ cap ∧ cap ≤ 9223372036854775807 := by
  obtain ⟨a, cap, rfl, h1, h2, _⟩ := h
  exact ⟨a, cap, rfl, h1, h2⟩
theorem Stps.nil (w : World) : Stps w (.slice none 0 0) [] := ⟨none, 0, rfl, by simp, by unfold maxLen; omega, by simp⟩
/-- Where an element lies, and how its cells read. -/
theorem Stps.at {w : World} {a : Option Addr} {n cap : Nat} {l : List Stp} (h : Stps w (.slice a n cap) l) {k : Nat} (hk : k < l.length) :
    ∃ b off, a = some ⟨b, off, none⟩ ∧ b < w.heap.size ∧ ∃ u, w.cell? ⟨b, off + k * 3, none⟩ = some (.int .i64 l[k].1) ∧ w.cell? ⟨b, off + k * 3 + 1, none⟩ = some (.int .i64 l[k].2.1) ∧ w.cell? ⟨b, off + k * 3 + 2, none⟩ = some u ∧ Sl w u (l[k].2.2.map (Value.int .u8)) := by
  obtain ⟨a', cap', h0, h1, h2, h3⟩ := h
  cases h0
  obtain ⟨b, off, rfl, hlt, hc⟩ := h3 (by omega)
  obtain ⟨u, c⟩ := hc k _ (List.getElem?_eq_getElem hk)
  exact ⟨b, off, rfl, hlt, u, c⟩

def z64 : Array Value := Array.replicate 64 (Value.int .u8 0)
theorem run_makeZ (w : World) : (Instr.makeSlice 26 (.int .i64 64) (.int .i64 64)).run Tryd.prog w = .ok (.slice (some ⟨w.heap.size, 0, none⟩) 64 64) (w.alloc (.cells z64 5)) := by
  have h := run_make_row' (P := Tryd.prog) 26 5 (.int .u8 0) 1 Tryd.underlying26 (by kernel_rfl) rfl .i64 .i64 64 (by omega) (by omega) w
  have e : madeCells #[.int .u8 0] 64 = z64 := by
    apply Array.ext'
    rw [toList_madeCells_one]
    simp [z64]
  rw [e] at h
  exact h
theorem OB.ofBlkS {w : World} {g base : Nat} {bs : List Int} {n : Nat} (h : Blk w g 5 (bs.map (Value.int .u8)).toArray) (hn : bs.length = n) (hm : n ≤ 140737488351232) (hg : base ≤ g) : OB w base (.slice (some ⟨g, 0, none⟩) n n) bs := by
  unfold OB
  subst hn
  refine ⟨by simp, .inr ⟨g, bs.length, _, rfl, hg, h, Nat.le_refl _, by unfold maxLen; omega, by simp, ?_⟩⟩
  rw [Nat.mul_one, List.take_of_length_le (by simp)]

end Go.Proofs.YtgfkejecigefbaaDoor

namespace Go.Proofs.YtgfkejecigefbaaDoor
open Go.RowKit
set_option linter.unusedVariables false

def z0 : List Int := List.replicate 64 0
theorem z0_len : z0.length = 64 := by simp [z0]
theorem z0_B : IsB z0 := fun x hx => by obtain ⟨_, rfl⟩ := List.mem_replicate.1 hx; omega
theorem z64_list : z64 = (z0.map (Value.int .u8)).toArray := by
  apply Array.ext'
  simp [z64, z0]
theorem ofD_new (n : Nat) : ofD (List.replicate n z0) = newD n := by
  unfold ofD newD zeroSec z0
  rw [List.map_replicate]

end Go.Proofs.YtgfkejecigefbaaDoor

namespace Go.Proofs.YtgfkejecigefbaaDoor
open Go.RowKit
set_option linter.unusedVariables false

/-- A row of texts of the call's own, whatever they say. -/
def ARow (w : World) (base : Nat) (v : Value) (us : List Value) : Prop := w.ownsRow base 26 1 v us.length us ∧ ∀ u ∈ us, ∃ bs, OB w base u bs
theorem OBAll.any {w : World} {base : Nat} : ∀ {us : List Value} {ps : List (List Int)}, OBAll w base us ps → ∀ u ∈ us, ∃ bs, OB w base u bs
  | [], [], _, u, hu => by cases hu
  | [], _ :: _, h, _, _ => h.elim
  | _ :: _, [], h, _, _ => h.elim
  | x :: us, p :: ps, h, u, hu => by
    rcases List.mem_cons.1 hu with rfl | hu
    · exact ⟨p, h.1⟩
    · exact h.2.any u hu
theorem OBs.arow {w : World} {base : Nat} {v : Value} {pss : List (List Int)} (h : OBs w base v pss) : ∃ us, us.length = pss.length ∧ ARow w base v us := by
  obtain ⟨vs, h1, h2⟩ := h
  exact ⟨vs, h2.len, by rw [h2.len]; exact h1, h2.any⟩
/-- A byte of one block is turned: a text of that block is a text. -/
theorem OB.turn {w : World} {base : Nat} {u : Value} {bs : List Int} (h : OB w base u bs) (g j : Nat) (x : Int) : ∃ bs', OB (w.setCell ⟨g, j, none⟩ (.int .u8 x)) base u bs' := by
  obtain ⟨h1, h2⟩ := h
  rcases h2 with ⟨rfl, e⟩ | ⟨g', c, cur, rfl, hb, hh, hn, hm, hc, ht⟩
  · exact ⟨bs, h1, .inl ⟨rfl, e⟩⟩
  · by_cases e : g' = g
    · subst e
      have k : Blk w g' 5 cur := hh
      have k2 := k.set_ j (.int .u8 x)
      refine ⟨if j < bs.length then bs.set j x else bs, ?_⟩
      have el : (if j < bs.length then bs.set j x else bs).length = bs.length := by split <;> simp
      unfold OB
      rw [el]
      refine ⟨by rw [List.length_map, el]; omega, .inr ⟨g', c, _, rfl, hb, k2, hn, hm, by rw [Array.size_setIfInBounds]; exact hc, ?_⟩⟩
      rw [Array.toList_setIfInBounds, List.take_set, ht]
      split
      · rw [List.map_set]
      · rename_i hj
        rw [List.set_eq_of_length_le (by rw [List.length_map]; omega)]
    · exact ⟨bs, h1, .inr ⟨g', c, cur, rfl, hb, (Blk.far (show Blk w g' 5 cur from hh) (p := ⟨g, j, none⟩) e (.int .u8 x)), hn, hm, hc, ht⟩⟩
theorem ARow.turn {w : World} {base : Nat} {v : Value} {us : List Value} (h : ARow w base v us) {g : Nat} {cur : Array Value} (k : Blk w g 5 cur) (j : Nat) (x : Int) : ARow (w.setCell ⟨g, j, none⟩ (.int .u8 x)) base v us := by
  refine ⟨?_, fun u hu => by obtain ⟨bs, hb⟩ := h.2 u hu; exact hb.turn g j x⟩
  exact (Only.setCell [g] w (p := ⟨g, j, none⟩) (by simp) (.int .u8 x)).owns h.1 fun g' hg' hm => by
    obtain ⟨cur2, k2⟩ := owns_blk h.1 hg'
    obtain rfl : g' = g := by simpa using hm
    exact Blk.ne_ k k2 (by decide) rfl

end Go.Proofs.YtgfkejecigefbaaDoor

namespace Go.Proofs.YtgfkejecigefbaaDoor
open Go.RowKit
set_option linter.unusedVariables false

theorem Sl.neB {w : World} {v : Value} {xs : List Value} {b : Nat} (h : Sl w v xs) (hb : w.heap.size ≤ b) : ∀ o n c, 0 < n → v ≠ .slice (some ⟨b, o, none⟩) n c := by
  obtain ⟨a, cap, rfl, h1, h2, h3⟩ := h
  intro o n c hn e
  injection e with e1 e2 e3
  obtain ⟨b', off, e4, hlt, _⟩ := h3 (by omega)
  rw [e1] at e4
  injection e4 with e4
  injection e4 with e5
  omega
theorem OB.neB {w : World} {base : Nat} {v : Value} {bs : List Int} {b : Nat} {l : List Sec} (h : OB w base v bs) (hr : SRow w b l) : ∀ o n c, 0 < n → v ≠ .slice (some ⟨b, o, none⟩) n c := by
  intro o n c hn e
  subst e
  obtain ⟨cur, k⟩ := owns_blk h (g := b) (by
    rcases h.2 with ⟨e, _⟩ | ⟨g, cap, cur, e, _⟩
    · cases e
    · cases e; rfl)
  obtain ⟨cur2, k2⟩ := hr.typ
  exact Blk.ne_ k k2 (by decide) rfl
theorem Dev.noB {w : World} {g b : Nat} {d : DSt} (h : Dev w g b d) : ∀ k ∈ [g, b], ∀ cur, ¬ Blk w k 5 cur ∧ ¬ Blk w k 26 cur := by
  intro k hk cur
  obtain ⟨cap, _, _, k1⟩ := h.blk
  obtain ⟨cur2, k2⟩ := h.row.typ
  rcases List.mem_cons.1 hk with rfl | hk
  · exact ⟨fun q => Blk.ne_ q k1 (by decide) rfl, fun q => Blk.ne_ q k1 (by decide) rfl⟩
  · obtain rfl : k = b := by simpa using hk
    exact ⟨fun q => Blk.ne_ q k2 (by decide) rfl, fun q => Blk.ne_ q k2 (by decide) rfl⟩
theorem OB.dev {w w' : World} {base : Nat} {v : Value} {bs : List Int} {g b : Nat} {d : DSt} (h : OB w base v bs) (hd : Dev w g b d) (ho : Only [g, b] w w') : OB w' base v bs :=
  h.only ho fun k hk cur => (hd.noB k hk cur).1

/-- What was synced in sector 3. -/
structure InvS (F : List Int) (d : DSt) : Prop where
  dead : d.dead = false
  fused : d.fused = false
  len : d.l.length = 6
  at3 : d.l[3]? = some { now := F, kept := F, waits := false }
theorem InvS.stops {F : List Int} {d : DSt} (h : InvS F d) : d.stops = false := by unfold DSt.stops; rw [h.dead, h.fused]; rfl
theorem chg_no {d : DSt} (h : d.stops = false) : d.chg.dead = d.dead ∧ d.chg.fused = d.fused ∧ d.chgE = 0 := by
  unfold DSt.chg DSt.chgE
  rw [h]
  exact ⟨rfl, rfl, rfl⟩
theorem InvS.wrote {F : List Int} {d : DSt} (h : InvS F d) {i : Int} (hi : i ≠ 3) (bs : List Int) : InvS F (d.wrote i bs) := by
  unfold DSt.wrote
  split
  · rename_i hq
    rw [if_neg (by rw [h.stops]; simp)]
    obtain ⟨e1, e2, _⟩ := chg_no h.stops
    have hx : 0 ≤ i := by have := hq.1; unfold DSt.has at this; exact (of_decide_eq_true this).1
    refine ⟨e1.trans h.dead, e2.trans h.fused, by show (d.l.modify _ _).length = 6; rw [List.length_modify]; exact h.len, ?_⟩
    show (d.l.modify i.toNat _)[3]? = _
    rw [List.getElem?_modify, h.at3]
    have hn : ¬ i.toNat = 3 := by omega
    show some (if i.toNat = 3 then _ else _) = _
    rw [if_neg hn]
  · exact h
theorem InvS.crash {F : List Int} {d : DSt} (h : InvS F d) (keep : List Int) : InvS F (d.crash keep) := by
  refine ⟨rfl, rfl, by show (crashL d.l keep).length = 6; unfold crashL; rw [List.length_mapIdx]; exact h.len, ?_⟩
  show (crashL d.l keep)[3]? = _
  unfold crashL
  rw [List.getElem?_mapIdx, h.at3]
  rfl
theorem InvS.read {F : List Int} {d : DSt} (h : InvS F d) : d.rdE 3 = 0 ∧ d.rd 3 = F := by
  have e : d.rdE 3 = 0 := by
    unfold DSt.rdE
    rw [if_pos (by unfold DSt.has; rw [decide_eq_true_eq, h.len]; omega), h.dead]; rfl
  refine ⟨e, ?_⟩
  unfold DSt.rd
  rw [if_pos e, List.getD_eq_getElem?_getD, List.getElem?_map, show (3 : Int).toNat = 3 from rfl, h.at3]; rfl
theorem stays_init {F : List Int} (hF : F.length = 64) : (newD 6).wrE 3 F = 0 ∧ ((newD 6).wrote 3 F).chgE = 0 ∧ InvS F ((newD 6).wrote 3 F).synced := by
  have h1 : (newD 6).has 3 = true := by unfold DSt.has newD; simp
  have h2 : (newD 6).stops = false := rfl
  have e : (newD 6).wrote 3 F = { (newD 6).chg with l := (newD 6).l.modify 3 fun s => s.wrote F } := by
    unfold DSt.wrote
    rw [if_pos ⟨h1, hF⟩, if_neg (by rw [h2]; simp)]; rfl
  obtain ⟨q1, q2, q3⟩ := chg_no h2
  have h3 : ((newD 6).wrote 3 F).stops = false := by
    rw [e]; unfold DSt.stops
    show ((newD 6).chg.dead || ((newD 6).chg.fused && _)) = false
    rw [q1, q2]; rfl
  obtain ⟨r1, r2, r3⟩ := chg_no h3
  refine ⟨by unfold DSt.wrE; rw [if_pos h1, if_pos hF]; exact q3, r3, ?_⟩
  unfold DSt.synced
  rw [if_neg (by rw [h3]; simp)]
  refine ⟨r1.trans (by rw [e]; exact q1), r2.trans (by rw [e]; exact q2), ?_, ?_⟩
  · show (List.mapIdx _ _).length = 6
    rw [List.length_mapIdx, e]
    show ((newD 6).l.modify _ _).length = 6
    rw [List.length_modify]; simp [newD]
  · show (List.mapIdx _ _)[3]? = _
    rw [List.getElem?_mapIdx, e]
    show ((newD 6).l.modify 3 _)[3]?.map _ = _
    rw [List.getElem?_modify]
    simp [newD, Sec.settled, Sec.wrote]

end Go.Proofs.YtgfkejecigefbaaDoor

namespace Go.Proofs.YtgfkejecigefbaaDoor
open Go.RowKit
set_option linter.unusedVariables false

/-- Which step it is. -/
def sop (op : Int) : Int := wrap64 ((IntKind.u64.wrap op).tmod 6)
def DSt.step (d : DSt) (p : Stp) : DSt :=
  if sop p.1 = 0 then d.wrote p.2.1 (padTo 64 p.2.2) else if sop p.1 = 1 then d.wrote p.2.1 p.2.2 else if sop p.1 = 2 then d.synced else if sop p.1 = 3 then d.fuse p.2.1 else d.crash p.2.2
theorem Dev.drew {w : World} {g b : Nat} {d : DSt} (h : Dev w g b d) : Dev w.drew g b d := h.only (bs := []) (Only.refl [] w).drew (by simp) (by simp)
theorem Dev.free {w : World} {g b : Nat} {d : DSt} (h : Dev w g b d) : RFree w [g, b] := by
  intro k hk cur
  obtain ⟨cap, _, _, k1⟩ := h.blk
  obtain ⟨cur2, k2⟩ := h.row.typ
  rcases List.mem_cons.1 hk with rfl | hk
  · exact ⟨fun q => Blk.ne_ q k1 (by decide) rfl, fun q => Blk.ne_ q k1 (by decide) rfl, fun q => Blk.ne_ q k1 (by decide) rfl, fun q => Blk.ne_ q k1 (by decide) rfl⟩
  · obtain rfl : k = b := by simpa using hk
    exact ⟨fun q => Blk.ne_ q k2 (by decide) rfl, fun q => Blk.ne_ q k2 (by decide) rfl, fun q => Blk.ne_ q k2 (by decide) rfl, fun q => Blk.ne_ q k2 (by decide) rfl⟩
theorem RDev.apart {w : World} {y gl gk gw g b : Nat} {d d' : DSt} (h : RDev w y gl gk gw d) (hd : Dev w g b d') : g ∉ [y, gl, gk, gw] ∧ b ∉ [y, gl, gk, gw] := by
  have hf := hd.free
  obtain ⟨cl, ck, cw, _, _, _, k⟩ := h.blk
  obtain ⟨c1, k1⟩ := h.rl.typ
  obtain ⟨c2, k2⟩ := h.rk.typ
  obtain ⟨c3, k3⟩ := h.rw.typ
  have key : ∀ m ∈ [g, b], m ∉ [y, gl, gk, gw] := by
    intro m hm hx
    have q := hf m hm
    simp only [List.mem_cons, List.not_mem_nil, or_false] at hx
    rcases hx with rfl | rfl | rfl | rfl
    · exact (q _).2.2.2 k
    · exact (q _).2.1 k1
    · exact (q _).2.1 k2
    · exact (q _).2.2.1 k3
  exact ⟨key g (by simp), key b (by simp)⟩
theorem Dev.keepB {w w' : World} {g b B : Nat} {d : DSt} (h : Dev w g b d) (hb : Below B w w') (hg : g < B) (hbb : b < B) : Dev w' g b d := by
  obtain ⟨⟨cap, h1, h2, k⟩, r, p, o⟩ := h
  exact ⟨⟨cap, h1, h2, k.below hb hg⟩, r.keep (hb.block b hbb), p, o⟩
theorem Only.then_below {bs : List Nat} {a b c : World} {B : Nat} (h : Only bs a b) (hb : Below B b c) (hB : a.heap.size ≤ B) : Only bs a c :=
  ⟨hb.os.trans h.os, hb.tape.trans h.tape, hb.output.trans h.output, Nat.le_trans h.size hb.size, fun k hk hn => (hb.block k (by omega)).trans (h.block k hk hn)⟩
/-- Both devices, of one content. -/
structure Pair (w : World) (g b y gl gk gw : Nat) (d : DSt) : Prop where
  dev : Dev w g b d
  ref : RDev w y gl gk gw d
/-- A text that lies in neither. -/
def Off (u : Value) (bs : List Nat) : Prop := ∀ k ∈ bs, ∀ o n c, 0 < n → u ≠ .slice (some ⟨k, o, none⟩) n c

end Go.Proofs.YtgfkejecigefbaaDoor

namespace Go.Proofs.YtgfkejecigefbaaDoor
open Go.RowKit
set_option linter.unusedVariables false

theorem TRow.sls {w : World} {gl cl : Nat} {xs : List (List Int)} (h : TRow w gl xs) (h1 : xs.length ≤ cl) (h2 : cl ≤ 9223372036854775807) : Sls w (.slice (some ⟨gl, 0, none⟩) xs.length cl) xs := by
  obtain ⟨cur, k, hx⟩ := h
  have hval : ∀ i, i < xs.length → ∃ u, cur[i]? = some u := fun i hi => by
    obtain ⟨u, hu, _⟩ := hx i xs[i] (List.getElem?_eq_getElem hi)
    exact ⟨u, hu⟩
  have hsz : xs.length ≤ cur.size := by
    rcases Nat.lt_or_ge cur.size xs.length with q | q
    · obtain ⟨u, hu⟩ := hval cur.size q
      rw [Array.getElem?_eq_none (Nat.le_refl _)] at hu; cases hu
    · exact q
  have hl : (cur.toList.take xs.length).length = xs.length := List.length_take_of_le (by rw [Array.length_toList]; exact hsz)
  refine ⟨cur.toList.take xs.length, ⟨some ⟨gl, 0, none⟩, cl, by rw [hl], by rw [hl]; exact h1, by unfold maxLen; exact h2, fun _ => ⟨gl, 0, rfl, k.lt, fun j u hj => ?_⟩⟩, hl, fun i u bs hu hp => ?_⟩
  · rw [List.getElem?_take] at hj
    split at hj
    · rw [k.cell, Nat.zero_add, ← Array.getElem?_toList]; exact hj
    · cases hj
  · rw [List.getElem?_take] at hu
    split at hu
    · obtain ⟨u', hu', hb⟩ := hx i bs hp
      rw [Array.getElem?_toList, hu'] at hu
      cases hu
      exact hb.sl
    · cases hu

set_option maxRecDepth 100000 in
set_option maxHeartbeats 4000000 in
theorem same_any (w : World) (g b y gl gk gw : Nat) (d : DSt) (hP : Pair w g b y gl gk gw d) :
    Calls Tryd.prog 48 #[.pointer (some ⟨g, 0, none⟩), .pointer (some ⟨y, 0, none⟩)] w fun e w' => e = .returned (.bool true) ∧ Below w.heap.size w w' := by
  have HP := Lib.hid hP
  have HWL := Lib.hid (show wlL d.ws = wlN d.ws d.l.length from by unfold wlL DSt.ws; rw [List.length_map])
  have HOK := Lib.hid hP.ref.ok
  obtain ⟨cl, ck, cw, h1, h2, h3, kb⟩ := hP.ref.blk
  have c2 : w.cell? ⟨y, 2, none⟩ = some (.slice (some ⟨gw, 0, none⟩) d.l.length cw) := kb.cell 2
  have hp := hP.ref.pos
  have HH1 := Lib.hid h1
  have HKB := Lib.hid kb
  obtain ⟨i0, hi, hz0, hz1, hz2⟩ := info_parts infoInt
  clear hP kb h1 h2
  go_enter Tryd.func48, Tryd.ntmps48
  go_wp2
  go_loopw [5, 13] (fun l i wr => ∃ (k : Nat) (v : Value), v = l ∧ k ≤ d.l.length ∧ i = .int .i64 k ∧ wr.ownsRow w.heap.size 3 1 v (wlN d.ws k).length ((wlN d.ws k).map fun i : Nat => Value.int .i64 i) ∧ Below w.heap.size w wr) (fun _ i _ => d.l.length - (intOf i).toNat)
  case atStart => exact ⟨0, _, rfl, by omega, rfl, World.ownsRow_nil _ _ _ _, Below.refl _ _⟩
  case round =>
    clear c2
    obtain ⟨k, v, rfl, hk, rfl, hO, hb⟩ := hrel
    obtain ⟨va, vn, vc, rfl⟩ := (Sl.of_owns hO).val
    by_cases hlt : k < d.l.length
    · have hkI : (k : Int) < (d.l.length : Int) := by omega
      have hg : d.l[k]? = some d.l[k] := List.getElem?_eq_getElem hlt
      obtain ⟨_, _, _, _, _, _, _, _, _, _, hA⟩ := (HP.out.ref.below hb).at_ hg
      have c8 := hA.w0
      have hw8 : d.ws.getD k false = d.l[k].waits := ws_at hg
      generalize d.l[k].waits = x at *
      have HB := Lib.hid (wlN_bound d.ws k)
      cases x with
      | true =>
        have HT := Lib.hid (show wlN d.ws (k + 1) = wlN d.ws k ++ [k] from by rw [wlN, if_pos hw8])
        have HT2 := Lib.hid (show (wlN d.ws (k + 1)).map (fun i : Nat => Value.int .i64 i) = (wlN d.ws k).map (fun i : Nat => Value.int .i64 i) ++ [.int .i64 k] ∧ (wlN d.ws (k + 1)).length = (wlN d.ws k).length + 1 from by rw [HT.out]; simp)
        generalize (wlN d.ws k).map (fun i : Nat => Value.int .i64 i) = XS at *
        generalize (wlN d.ws k).length = n at *
        have hbA : Below wr.heap.size wr (wr.alloc (.cells #[.int .i64 k] 3)) := (Below.refl _ _).alloc (Nat.le_refl _) _
        have hO3 := ownsRow_below hO hbA (Nat.le_refl _)
        have hc3 := (Blk.new wr 3 #[.int .i64 k]).cell 0
        have hbA2 := hb.trans (hbA.mono hb.size)
        clear hA hg hw8 hO hbA hb HT
        go_wp2_with (at_builtin; refine wpList_append_own _ rfl _ _ 70 rfl w.heap.size 3 i0 (.int .i64 0) 1 8 Tryd.underlying70 hi hz0 hz1 hz2 rfl (by decide) _ n XS rfl hO3 ⟨wr.heap.size, 0, none⟩ 1 1 [.int .i64 k] rfl rfl (fun j u hj => by match j, hj with | 0, hj => (simp at hj; subst hj; exact hc3) | j + 1, hj => simp at hj) (by simp [Value.oneCell']) (by have := HB.out; unfold maxLen; omega) (by have := HB.out; omega) hbA2.size ?_)
        intro v5 w5 hO5 hg5 _
        have hb6 := below_grown hbA2 hO3 (Nat.le_refl _) hbA2.size hg5
        rw [← HT2.out.1, ← HT2.out.2] at hO5
        clear hg5 hO3 hc3 hbA2
        go_wp2
        go_roundw
        case rel => exact ⟨k + 1, v5, rfl, by omega, by go_num, hO5, hb6⟩
        case measure => simp [intOf]; omega
      | false =>
        have HT := Lib.hid (show wlN d.ws (k + 1) = wlN d.ws k from by rw [wlN, if_neg (by rw [hw8]; simp), List.append_nil])
        clear hA hg hw8
        go_wp2
        go_roundw
        case rel => exact ⟨k + 1, _, rfl, by omega, by go_num, by rw [HT.out]; exact hO, hb⟩
        case measure => simp [intOf]; omega
    · obtain rfl : k = d.l.length := by omega
      have hkI : ¬ (d.l.length : Int) < (d.l.length : Int) := by omega
      have hO2 := hO
      rw [← HWL.out] at hO2
      have HWS := Lib.hid (show Sl wr (.slice va vn vc) (((wlL d.ws).map fun i : Nat => (i : Int)).map (Value.int .i64)) from by
        have h := Sl.of_owns hO2
        rw [List.map_map]; exact h)
      have HPR := Lib.hid (show Pair wr g b y gl gk gw d from ⟨HP.out.dev.below hb, HP.out.ref.below hb⟩)
      have HKR := Lib.hid (HKB.out.belowS hb)
      have HBR := Lib.hid hb
      clear hO hO2 hb
      go_upto_region 8 with (fail)
      have HIM := Lib.hid (fun w' (q : Below wr.heap.size wr w') => dimage_any w' g b d (HPR.out.dev.below q))
      have HWA := Lib.hid (fun w' (q : Below wr.heap.size wr w') => dwaits_any w' g b d (HPR.out.dev.below q))
      have HDE := Lib.hid (fun w' (q : Below wr.heap.size wr w') => ddead_any w' g b d (HPR.out.dev.below q))
      have HCH := Lib.hid (fun w' (q : Below wr.heap.size wr w') => dchanges_any w' g b d (HPR.out.dev.below q))
      have HST := Lib.hid (fun w' x (q : Below wr.heap.size wr w') (h : Sls w' x (d.l.map Sec.now)) => (show Calls Tryd.prog 21 #[x, .slice (some ⟨gl, 0, none⟩) d.l.length cl] w' fun e w'' => e = .returned (.bool true) ∧ w' = w'' from by
        have hB : ∀ p ∈ d.l.map Sec.now, IsB p := fun p hp => by
          obtain ⟨s, hs, rfl⟩ := List.mem_map.1 hp
          exact (HOK.out s hs).2.2.1
        have hS := (HPR.out.ref.below q).rl.sls (cl := cl) (by rw [List.length_map]; exact HH1.out.1) HH1.out.2
        rw [List.length_map] at hS
        have h2 := sameTexts_any x _ _ _ w' h hS hB hB
        rw [decide_eq_true rfl] at h2
        exact h2))
      have HEQ := Lib.hid (fun w' x (q : Below wr.heap.size wr w') (h : Sl w' x (((wlL d.ws).map fun i : Nat => (i : Int)).map (Value.int .i64))) => (show Calls Tryd.prog 70 #[x, .slice va vn vc] w' fun e w'' => e = .returned (.bool true) ∧ Below w'.heap.size w' w'' from by
        have h2 := eqInts_any x (.slice va vn vc) _ _ w' h (HWS.out.below q (Nat.le_refl _))
        rw [decide_eq_true rfl] at h2
        exact h2))
      have HSS := Lib.hid (fun w' (q : Below wr.heap.size wr w') => (show w'.cell? ⟨y, 0, none⟩ = some (.slice (some ⟨gl, 0, none⟩) d.l.length cl) ∧ w'.cell? ⟨y, 4, none⟩ = some (.bool d.dead) ∧ w'.cell? ⟨y, 5, none⟩ = some (.int .i64 d.changes) from ⟨(HKR.out.belowS q).cell 0, (HKR.out.belowS q).cell 4, (HKR.out.belowS q).cell 5⟩))
      have hG := Lib.hid (HSS.out wr (Below.refl _ _))
      have HB0 := Lib.hid (show Below wr.heap.size wr wr.drew from (Below.refl _ _).drew)
      clear hkI
      go_region_held3 (fun w' => w'.cell? ⟨y, 0, none⟩ = some (.slice (some ⟨gl, 0, none⟩) d.l.length cl) ∧ w'.cell? ⟨y, 4, none⟩ = some (.bool d.dead) ∧ w'.cell? ⟨y, 5, none⟩ = some (.int .i64 d.changes)) (exact hG.out) (first
        | (go_at_call 27; refine (HIM.out _ HB0.out).mono ?_; rintro e w2 ⟨x2, rfl, hx2, hb2⟩; obtain ⟨xa, xc, rfl⟩ : ∃ a c, x2 = Value.slice a d.l.length c := (by obtain ⟨a, c, e⟩ := hx2.val; rw [List.length_map] at e; exact ⟨a, c, e⟩); have hb2 : Below wr.heap.size wr w2 := ⟨hb2.os, hb2.tape, hb2.output, hb2.size, hb2.block⟩; have hG := Lib.hid (HSS.out _ hb2))
        | (go_at_call 21; refine (HST.out _ _ hb2 hx2.sls).mono ?_; rintro e w3 ⟨rfl, rfl⟩)
        | (go_at_call 38; refine (HDE.out _ hb2).mono ?_; rintro e w3 ⟨rfl, rfl⟩)
        | (go_at_call 69; refine (HCH.out _ hb2).mono ?_; rintro e w3 ⟨rfl, rfl⟩)
        | (go_at_call 43; refine (HWA.out _ hb2).mono ?_; rintro e w4 ⟨x4, rfl, hx4, hb4⟩; obtain ⟨ya, yn, yc, rfl⟩ := (Sl.of_owns hx4).val; have hb4 := below_trans2 hb2 hb4; have hG := Lib.hid (HSS.out _ hb4))
        | (go_at_call 70; refine (HEQ.out _ _ hb4 (by have h := Sl.of_owns hx4; rw [List.map_map]; exact h)).mono ?_; rintro e w5 ⟨rfl, hb5⟩; have hb5 := below_trans2 hb4 hb5; have hG := Lib.hid (HSS.out _ hb5)))
      all_goals
        have hbw := HBR.out.trans (hb5.mono HBR.out.size)
        clear hx2 hb2 hx4 hb4 hb5 hG
        go_wp2
        go_ret
        exact ⟨rfl, hbw⟩

end Go.Proofs.YtgfkejecigefbaaDoor

namespace Go.Proofs.YtgfkejecigefbaaDoor
open Go.RowKit
set_option linter.unusedVariables false

set_option maxRecDepth 100000 in
set_option maxHeartbeats 1000000 in
theorem rroom_any (w : World) (q y gl gk gw B : Nat) (v : Value) (s : LSt) (d : DSt) (h : RLg w q y gl gk gw B v s d) : Calls Tryd.prog 49 #[.pointer (some ⟨q, 0, none⟩)] w fun e w' => e = .returned (.int .i64 (roomI s)) ∧ Below w.heap.size w w' := by
  have c0 : w.cell? ⟨q, 0, none⟩ = some (.pointer (some ⟨y, 0, none⟩)) := h.blk.cell 0
  have c2 : w.cell? ⟨q, 2, none⟩ = some (.int .i64 s.fin) := h.blk.cell 2
  obtain ⟨cl, ck, cw, _, _, _, k⟩ := h.dev.blk
  rw [← h.secs] at k
  have c1 : w.cell? ⟨y, 0, none⟩ = some (.slice (some ⟨gl, 0, none⟩) s.secs cl) := k.cell 0
  have hS : s.secs ≤ 16384 := by have := h.dev.pos.2; have := h.secs; omega
  have hF := h.fin
  have HR := Lib.hid (show roomI s = min (max (64 * ((s.secs : Int) - s.fin - 1) - 12) 0) 4000 from rfl)
  clear k
  generalize s.secs = S at *
  generalize s.fin = F at *
  clear h
  by_cases hm : 64 * ((S : Int) - F - 1) - 12 ≤ 4000
  · by_cases hp : 0 ≤ 64 * ((S : Int) - F - 1) - 12
    · have HR2 := Lib.hid (show roomI s = 64 * ((S : Int) - F - 1) - 12 from by rw [HR.out]; omega)
      clear HR
      go_enter Tryd.func49, Tryd.ntmps49
      go_upto_region 1 with (fail)
      go_quiet (fail)
      go_wp2
      go_ret
      exact ⟨ret_int HR2.out.symm, below_drewN0 (Below.refl _ _) _⟩
    · have HR2 := Lib.hid (show roomI s = 0 from by rw [HR.out]; omega)
      have hm2 : 64 * ((S : Int) - F - 1) - 12 < 0 := by omega
      clear HR hp
      go_enter Tryd.func49, Tryd.ntmps49
      go_upto_region 1 with (fail)
      go_quiet (fail)
      go_wp2
      go_ret
      exact ⟨ret_int HR2.out.symm, below_drewN0 (Below.refl _ _) _⟩
  · have HR2 := Lib.hid (show roomI s = 4000 from by rw [HR.out]; omega)
    have hm2 : (4000 : Int) < 64 * ((S : Int) - F - 1) - 12 := by omega
    clear HR hm
    go_enter Tryd.func49, Tryd.ntmps49
    go_upto_region 1 with (fail)
    go_quiet (fail)
    go_wp2
    go_ret
    exact ⟨ret_int HR2.out.symm, below_drewN0 (Below.refl _ _) _⟩

theorem RLg.only {w w' : World} {q y gl gk gw B : Nat} {v : Value} {s : LSt} {d : DSt} {ds : List Nat} (h : RLg w q y gl gk gw B v s d) (ho : Only ds w w') (hf : RFree w ds) (hq : q ∉ ds) (hv : ∀ k, v.ownBlock = some k → k ∉ ds) : RLg w' q y gl gk gw B v s d :=
  ⟨ho.blk h.blk hq, h.row.only ho (fun k hk cur => (hf k hk cur).1) hv, h.dev.only ho hf, h.secs, h.fin, h.cnt, h.isB⟩
theorem RLg.below {w w' : World} {q y gl gk gw B : Nat} {v : Value} {s : LSt} {d : DSt} (h : RLg w q y gl gk gw B v s d) (hb : Below w.heap.size w w') : RLg w' q y gl gk gw B v s d :=
  h.only (Only.of_below [] hb) (by intro k hk; cases hk) (by simp) (by simp)
/-- Both logs, of one content, and the pair that holds them. -/
structure Both (w : World) (p q x g b y gl gk gw : Nat) (s : LSt) (d : DSt) : Prop where
  blk : Blk w p 61 #[.pointer (some ⟨q, 0, none⟩), .pointer (some ⟨x, 0, none⟩), .pointer (some ⟨g, 0, none⟩), .pointer (some ⟨y, 0, none⟩)]
  lg : ∃ B v, Lg w q g b B v s d
  rl : ∃ B v, RLg w x y gl gk gw B v s d
theorem Both.below {w w' : World} {p q x g b y gl gk gw : Nat} {s : LSt} {d : DSt} (h : Both w p q x g b y gl gk gw s d) (hb : Below w.heap.size w w') : Both w' p q x g b y gl gk gw s d := by
  obtain ⟨k, ⟨B, v, h1⟩, ⟨B2, v2, h2⟩⟩ := h
  exact ⟨k.belowS hb, ⟨B, v, h1.below hb⟩, ⟨B2, v2, h2.below hb⟩⟩
theorem Both.pair {w : World} {p q x g b y gl gk gw : Nat} {s : LSt} {d : DSt} (h : Both w p q x g b y gl gk gw s d) : Pair w g b y gl gk gw d := by
  obtain ⟨k, ⟨B, v, h1⟩, ⟨B2, v2, h2⟩⟩ := h
  exact ⟨h1.dev, h2.dev⟩
theorem DSt.calm.opened {d : DSt} (h : d.calm) (h64 : ∀ p ∈ d.img, p.length = 64) : d.opened.2 = 0 := by
  unfold DSt.opened
  rw [if_neg (by rw [h.1]; decide)]
  have hs : (scanAll d.img).2 ≤ d.img.length := scanI_le h64 _ 0 [] (Nat.zero_le _)
  exact wipeD_calm _ _ _ _ h (by rw [List.length_drop, ← img_len]; omega)
theorem ROpenP.ok {w w' : World} {y gl gk gw : Nat} {d : DSt} {e : Ending} (h : ROpenP w w' y gl gk gw d e) (he : d.opened.2 = 0) : ∃ q v, e = .returned (.tuple #[.pointer (some ⟨q, 0, none⟩), .int .i64 0]) ∧ w.heap.size ≤ q ∧ RLg w' q y gl gk gw w.heap.size v d.log d.opened.1 := by
  rcases h with h | h
  · exact h.2
  · exact absurd he h.1

set_option maxRecDepth 100000 in
set_option maxHeartbeats 4000000 in
theorem popen_any (w : World) (p g b y gl gk gw : Nat) (d : DSt) (ht : Tabs w) (hk : Blk w p 61 #[.pointer none, .pointer none, .pointer (some ⟨g, 0, none⟩), .pointer (some ⟨y, 0, none⟩)]) (hP : Pair w g b y gl gk gw d) (hc : d.calm) :
    Calls Tryd.prog 24 #[.pointer (some ⟨p, 0, none⟩)] w fun e w' => ∃ q x, e = .returned (.bool true) ∧ Both w' p q x g b y gl gk gw d.log d.opened.1 ∧ Only [p, g, b, y, gl, gk, gw] w w' := by
  have HT := Lib.hid ht
  have HK := Lib.hid hk
  have HEZ := Lib.hid (hc.opened (img_64 hP.dev.ok))
  have c2 : w.cell? ⟨p, 2, none⟩ = some (.pointer (some ⟨g, 0, none⟩)) := hk.cell 2
  have HD1 := Lib.hid (open_any w g b d ht hP.dev)
  have HAP := Lib.hid (hP.ref.apart hP.dev)
  have HFR := Lib.hid hP.dev.free
  have HLT := Lib.hid hP.ref.lts
  have HPP := Lib.hid hP
  have hpg : p ∉ [g, b] := by
    obtain ⟨cap, _, _, k1⟩ := hP.dev.blk
    obtain ⟨c2, k2⟩ := hP.dev.row.typ
    simp only [List.mem_cons, List.not_mem_nil, or_false]
    rintro (rfl | rfl)
    · exact Blk.ne_ hk k1 (by decide) rfl
    · exact Blk.ne_ hk k2 (by decide) rfl
  have hpy : p ∉ [y, gl, gk, gw] := by
    obtain ⟨_, k1⟩ := hP.ref.rl.typ
    obtain ⟨_, k2⟩ := hP.ref.rk.typ
    obtain ⟨_, k3⟩ := hP.ref.rw.typ
    obtain ⟨_, _, _, _, _, _, k⟩ := hP.ref.blk
    simp only [List.mem_cons, List.not_mem_nil, or_false]
    rintro (rfl | rfl | rfl | rfl)
    · exact Blk.ne_ hk k (by decide) rfl
    · exact Blk.ne_ hk k1 (by decide) rfl
    · exact Blk.ne_ hk k2 (by decide) rfl
    · exact Blk.ne_ hk k3 (by decide) rfl
  have HPG := Lib.hid (And.intro hpg hpy)
  clear hk hP hc ht hpg hpy
  go_enter Tryd.func24, Tryd.ntmps24
  go_wp2_with fail
  refine HD1.out.mono ?_
  rintro e w1 ⟨hP1, hO1⟩
  obtain ⟨q, v, rfl, hq, hv, hL1⟩ := hP1.ok HEZ.out
  have HL1 := Lib.hid hL1
  have hK1 := hO1.blk HK.out HPG.out.1
  have HK1 := Lib.hid hK1
  have c3 : w1.cell? ⟨p, 3, none⟩ = some (.pointer (some ⟨y, 0, none⟩)) := hK1.cell 3
  have HR1 := Lib.hid (HPP.out.ref.only hO1 HFR.out)
  have HD2 := Lib.hid (ropen_any w1 y gl gk gw d HR1.out)
  have HO1 := Lib.hid hO1
  have HQ := Lib.hid (And.intro hq hv)
  clear hP1 hL1 hK1 hO1 hq hv c2 HD1
  go_wp2_with fail
  refine HD2.out.mono ?_
  rintro e w2 ⟨hP2, hO2⟩
  obtain ⟨x, vx, rfl, hx, hR2⟩ := hP2.ok HEZ.out
  have HR2 := Lib.hid hR2
  have hK2 := hO2.blk HK1.out HPG.out.2
  have HK2 := Lib.hid hK2
  have HL2 := Lib.hid (show Lg w2 q g b w.heap.size v d.log d.opened.1 from HL1.out.only hO2 HR1.out.noTextR (fun k hk hm => by
    have h1 := HQ.out.2 k hk
    have h2 := HLT.out k hm
    omega) (fun hm => by
    have h1 := HQ.out.1
    have h2 := HLT.out q hm
    omega) HAP.out.1 HAP.out.2)
  have d0 : w2.cell? ⟨p, 0, none⟩ = some (.pointer none) := hK2.cell 0
  have e0 := hK2.frozen 0
  have hK3 := hK2.set_ 0 (.pointer (some ⟨q, 0, none⟩))
  have d1 : (w2.setCell ⟨p, 0, none⟩ (.pointer (some ⟨q, 0, none⟩))).cell? ⟨p, 1, none⟩ = some (.pointer none) := hK3.cell 1
  have e1 := hK3.frozen 1
  have hK4 := hK3.set_ 1 (.pointer (some ⟨x, 0, none⟩))
  have hO4 : Only [p] w2 ((w2.setCell ⟨p, 0, none⟩ (.pointer (some ⟨q, 0, none⟩))).setCell ⟨p, 1, none⟩ (.pointer (some ⟨x, 0, none⟩))) := (Only.setCell _ _ (by simp) _).trans (Only.setCell _ _ (by simp) _)
  have HK4 := Lib.hid hK4
  have HO4 := Lib.hid hO4
  have HO2 := Lib.hid hO2
  clear hP2 hR2 hK2 hK3 hK4 hO4 hO2 c3 HD2 HL1 hx
  go_wp2
  go_ret
  refine ⟨q, x, rfl, ?_, ?_⟩
  · refine ⟨HK4.out, ⟨w.heap.size, v, HL2.out.only HO4.out ?_ ?_ ?_ ?_ ?_⟩, ⟨w1.heap.size, vx, HR2.out.only HO4.out ?_ ?_ ?_⟩⟩
    · intro k hk cur e
      obtain rfl : k = p := by simpa using hk
      exact Blk.ne_ e HK2.out (by decide) rfl
    · intro k hk hm
      obtain rfl : k = p := by simpa using hm
      obtain ⟨cur, kk⟩ := HL2.out.row.blk hk
      exact Blk.ne_ kk HK2.out (by decide) rfl
    · intro hm
      obtain rfl : q = p := by simpa using hm
      exact Blk.ne_ HL2.out.blk HK2.out (by decide) rfl
    · intro hm
      obtain rfl : g = p := by simpa using hm
      exact HPG.out.1 (by simp)
    · intro hm
      obtain rfl : b = p := by simpa using hm
      exact HPG.out.1 (by simp)
    · intro k hk cur
      obtain rfl : k = p := by simpa using hk
      exact ⟨fun e => Blk.ne_ e HK2.out (by decide) rfl, fun e => Blk.ne_ e HK2.out (by decide) rfl, fun e => Blk.ne_ e HK2.out (by decide) rfl, fun e => Blk.ne_ e HK2.out (by decide) rfl⟩
    · intro hm
      obtain rfl : x = p := by simpa using hm
      exact Blk.ne_ HR2.out.blk HK2.out (by decide) rfl
    · intro k hk hm
      obtain rfl : k = p := by simpa using hm
      obtain ⟨cur, kk⟩ := HR2.out.row.blk hk
      exact Blk.ne_ kk HK2.out (by decide) rfl
  · exact ((HO1.out.mono (cs := [p, g, b, y, gl, gk, gw]) (fun k hk => by simp at hk ⊢; omega)).trans (HO2.out.mono (cs := [p, g, b, y, gl, gk, gw]) (fun k hk => by simp at hk ⊢; omega))).trans (HO4.out.mono (cs := [p, g, b, y, gl, gk, gw]) (fun k hk => by simp at hk ⊢; omega))

end Go.Proofs.YtgfkejecigefbaaDoor

namespace Go.Proofs.YtgfkejecigefbaaDoor
open Go.RowKit
set_option linter.unusedVariables false

set_option maxRecDepth 100000 in
set_option maxHeartbeats 4000000 in
theorem psame_any (w : World) (p q x g b y gl gk gw : Nat) (s : LSt) (d : DSt) (h : Both w p q x g b y gl gk gw s d) :
    Calls Tryd.prog 25 #[.pointer (some ⟨p, 0, none⟩)] w fun e w' => e = .returned (.bool true) ∧ Below w.heap.size w w' := by
  have HH := Lib.hid h
  have HSM := Lib.hid (fun w' (hb : Below w.heap.size w w') => same_any w' g b y gl gk gw d (h.below hb).pair)
  have hpl := h.blk.lt
  have c0 : w.cell? ⟨p, 0, none⟩ = some (.pointer (some ⟨q, 0, none⟩)) := h.blk.cell 0
  have c1 : w.cell? ⟨p, 1, none⟩ = some (.pointer (some ⟨x, 0, none⟩)) := h.blk.cell 1
  have c2 : w.cell? ⟨p, 2, none⟩ = some (.pointer (some ⟨g, 0, none⟩)) := h.blk.cell 2
  have c3 : w.cell? ⟨p, 3, none⟩ = some (.pointer (some ⟨y, 0, none⟩)) := h.blk.cell 3
  have HG := Lib.hid (And.intro c0 (And.intro c1 (And.intro c2 c3)))
  have HG2 := Lib.hid (fun w' (hb : Below w.heap.size w w') => And.intro ((hb.cell (p := ⟨p, 0, none⟩) hpl).trans c0) (And.intro ((hb.cell (p := ⟨p, 1, none⟩) hpl).trans c1) (And.intro ((hb.cell (p := ⟨p, 2, none⟩) hpl).trans c2) ((hb.cell (p := ⟨p, 3, none⟩) hpl).trans c3))))
  clear h
  go_enter Tryd.func25, Tryd.ntmps25
  go_upto_region 1 with (fail)
  go_region_held3 (fun w' => w'.cell? ⟨p, 0, none⟩ = some (.pointer (some ⟨q, 0, none⟩)) ∧ w'.cell? ⟨p, 1, none⟩ = some (.pointer (some ⟨x, 0, none⟩)) ∧ w'.cell? ⟨p, 2, none⟩ = some (.pointer (some ⟨g, 0, none⟩)) ∧ w'.cell? ⟨p, 3, none⟩ = some (.pointer (some ⟨y, 0, none⟩))) (first | exact HG.out | exact HG2.out _ (by assumption)) (first | (go_at_call 48; refine (HSM.out _ (by first | exact Below.refl _ _ | exact (Below.refl _ _).drew)).mono ?_; rintro e w3 ⟨rfl, hb3⟩; have hb3 := below_trans2 (Below.refl w.heap.size w).drew hb3))
  clear c0 c1 c2 c3 HG HG2 HSM hpl
  have H3 := Lib.hid (HH.out.below hb3)
  have HB3 := Lib.hid hb3
  clear hb3 HH
  obtain ⟨B, v, hL⟩ := H3.out.lg
  obtain ⟨B2, vx, hR⟩ := H3.out.rl
  have HL := Lib.hid hL
  have HR := Lib.hid hR
  obtain ⟨xa, xc, e⟩ := hR.row.val
  subst e
  have hisB := hL.isB
  have HRE := Lib.hid (fun w' (hb : Below w3.heap.size w3 w') => lrecords_any w' q g b B v s d (HL.out.below hb))
  have HST := Lib.hid (fun w' y (hb : Below w3.heap.size w3 w') (hy : Sls w' y s.l) => (show Calls Tryd.prog 21 #[y, .slice xa s.l.length xc] w' fun e w'' => e = .returned (.bool true) ∧ w' = w'' from by
    have h2 := sameTexts_any y _ _ _ w' hy (HR.out.below hb).row.sls hisB hisB
    rw [decide_eq_true rfl] at h2
    exact h2))
  have HRO := Lib.hid (fun w' (hb : Below w3.heap.size w3 w') => lroom_any w' q g b B v s d (HL.out.below hb))
  have HRR := Lib.hid (fun w' (hb : Below w3.heap.size w3 w') => rroom_any w' x y gl gk gw B2 _ s d (HR.out.below hb))
  have HLN := Lib.hid (fun w' (hb : Below w3.heap.size w3 w') => llen_any w' q g b B v s d (HL.out.below hb))
  have HSP := Lib.hid (fun w' (hb : Below w3.heap.size w3 w') => lstopped_any w' q g b B v s d (HL.out.below hb))
  have HC := Lib.hid (fun w' (hb : Below w3.heap.size w3 w') => show w'.cell? ⟨p, 0, none⟩ = some (.pointer (some ⟨q, 0, none⟩)) ∧ w'.cell? ⟨p, 1, none⟩ = some (.pointer (some ⟨x, 0, none⟩)) ∧ w'.cell? ⟨x, 1, none⟩ = some (.slice xa s.l.length xc) ∧ w'.cell? ⟨x, 3, none⟩ = some (.bool s.stop) from by
    have k1 := (H3.out.blk.belowS hb)
    have k2 := (HR.out.blk.belowS hb)
    exact ⟨k1.cell 0, k1.cell 1, k2.cell 1, k2.cell 3⟩)
  have hG := Lib.hid (HC.out w3 (Below.refl _ _))
  have HB0 := Lib.hid (show Below w3.heap.size w3 w3.drew from (Below.refl _ _).drew)
  have heq : (roomI s == roomI s) = true := by simp
  have heq2 : ((s.l.length : Int) == (s.l.length : Int)) = true := by simp
  have heq3 : (s.stop == s.stop) = true := by simp
  generalize roomI s = R at *
  generalize s.stop = st at *
  clear hL hR hisB
  go_upto_region 3 with (fail)
  simp only [List.append_eq, List.cons_append, List.nil_append]
  go_region_held3 (fun w' => w'.cell? ⟨p, 0, none⟩ = some (.pointer (some ⟨q, 0, none⟩)) ∧ w'.cell? ⟨p, 1, none⟩ = some (.pointer (some ⟨x, 0, none⟩)) ∧ w'.cell? ⟨x, 1, none⟩ = some (.slice xa s.l.length xc) ∧ w'.cell? ⟨x, 3, none⟩ = some (.bool st)) (exact hG.out) (first
    | (go_at_call 12; refine (HRE.out _ HB0.out).mono ?_; rintro e w4 ⟨xr, rfl, hxr, hb4⟩; obtain ⟨ra, rc, rfl⟩ : ∃ a c, xr = Value.slice a s.l.length c := hxr.val; have hb4 := below_trans2 HB0.out hb4; have hG := Lib.hid (HC.out _ hb4))
    | (go_at_call 21; refine (HST.out _ _ hb4 hxr.sls).mono ?_; rintro e w5 ⟨rfl, rfl⟩)
    | (go_at_call 13; refine (HRO.out _ hb4).mono ?_; rintro e w6 ⟨rfl, hb6⟩; have hb6 := below_trans2 hb4 hb6; have hG := Lib.hid (HC.out _ hb6))
    | (go_at_call 49; refine (HRR.out _ hb6).mono ?_; rintro e w7 ⟨rfl, hb7⟩; have hb7 := below_trans2 hb6 hb7; have hG := Lib.hid (HC.out _ hb7))
    | (go_at_call 14; refine (HLN.out _ hb7).mono ?_; rintro e w8 ⟨rfl, rfl⟩)
    | (go_at_call 15; refine (HSP.out _ hb7).mono ?_; rintro e w9 ⟨rfl, rfl⟩))
  all_goals
    have hbw := below_trans2 HB3.out hb7
    clear hxr hb4 hb6 hb7 hG
    go_wp2
    go_ret
    exact ⟨rfl, hbw⟩

end Go.Proofs.YtgfkejecigefbaaDoor
