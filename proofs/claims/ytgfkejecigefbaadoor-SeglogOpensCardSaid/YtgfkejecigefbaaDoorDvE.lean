
/- Texts of the call's own, each in a block of bytes; slices.Clone makes one; lists of such texts. Conditions: none. -/
import Derived.Test.YtgfkejecigefbaaDoorDvA
import Derived.Deep.RegionLaw
namespace Go.Proofs.YtgfkejecigefbaaDoor
open Go.RowKit
set_option linter.unusedVariables false

theorem ownsRow_low {w : World} {b0 b1 : Nat} {e : TypeId} {size : Nat} {v : Value} {n : Nat} {xs : List Value} (h : w.ownsRow b1 e size v n xs) (hb : b0 ≤ b1) : w.ownsRow b0 e size v n xs := by
  obtain ⟨h1, h2⟩ := h
  refine ⟨h1, h2.imp id ?_⟩
  rintro ⟨g, cap, cur, hv, hg, hr⟩
  exact ⟨g, cap, cur, hv, by omega, hr⟩
/-- A text of the call's own. -/
def OB (w : World) (base : Nat) (v : Value) (bs : List Int) : Prop := w.ownsRow base 5 1 v bs.length (bs.map (Value.int .u8))
theorem OB.sl {w : World} {base : Nat} {v : Value} {bs : List Int} (h : OB w base v bs) : Sl w v (bs.map (Value.int .u8)) := Sl.of_owns h
theorem OB.below {w w' : World} {base : Nat} {v : Value} {bs : List Int} (h : OB w base v bs) (hb : Below w.heap.size w w') : OB w' base v bs := ownsRow_below h hb (Nat.le_refl _)
theorem OB.base {w : World} {b0 b1 : Nat} {v : Value} {bs : List Int} (h : OB w b1 v bs) (hb : b0 ≤ b1) : OB w b0 v bs := ownsRow_low h hb
theorem OB.only {ds : List Nat} {w w' : World} {base : Nat} {v : Value} {bs : List Int} (h : OB w base v bs) (ho : Only ds w w') (hd : ∀ g ∈ ds, ∀ cur, ¬ Blk w g 5 cur) : OB w' base v bs :=
  ho.owns h fun g hg hm => by obtain ⟨cur, k⟩ := owns_blk h hg; exact hd g hm cur k

set_option maxHeartbeats 400000 in
theorem sclone_own (v : Value) (bs : List Int) (w : World) (hn : bs.length ≤ 140737488351232) (hs : Sl w v (bs.map (Value.int .u8))) :
    Calls Tryd.prog 37 #[v] w fun e w' => ∃ v', e = .returned v' ∧ OB w' w.heap.size v' bs ∧ Below w.heap.size w w' := by
  have hs0 := hs
  obtain ⟨ad, cap, rfl, hc1, hcm, hc⟩ := hs0
  simp only [List.length_map] at *
  obtain ⟨i0, hi, hz0, hz1, hz2⟩ := info_parts info8c
  have HN := Lib.hid hn
  clear hn
  cases ad with
  | none =>
    have hl0 : bs.length = 0 := by
      rcases Nat.eq_zero_or_pos bs.length with h0 | h0
      · exact h0
      · obtain ⟨b, off, hab, _⟩ := hc h0; cases hab
    obtain rfl : bs = [] := List.length_eq_zero_iff.1 hl0
    have he : ∀ w : World, (binOp .eql 26 (.slice none 0 cap) (.slice none 0 0)).run Tryd.prog w = .ok (.bool true) w := fun w => Lib.run_eql_slice_nil w 26 5 none _ _ _ _ Tryd.underlying26
    simp only [List.length_nil]
    go_enter Tryd.func37, Tryd.ntmps37
    go_wp2
    go_ret
    exact ⟨_, rfl, World.ownsRow_nil _ _ _ _, Below.refl _ _⟩
  | some ad =>
    have hown0 : (w.alloc (.cells #[] 5)).ownsRow w.heap.size 5 1 (.slice (some ⟨w.heap.size, 0, none⟩) 0 0) 0 [] :=
      World.ownsRow_lit (base := w.heap.size) (e := 5) (size := 1) w #[] 0 (Nat.le_refl _) (by simp [maxLen]) (by simp)
    have hb0 : Below w.heap.size w (w.alloc (.cells #[] 5)) := (Below.refl _ _).alloc (Nat.le_refl _) _
    have hs1 := hs.below hb0 (Nat.le_refl _)
    clear hc
    have he : ∀ w : World, (binOp .eql 26 (.slice (some ad) bs.length cap) (.slice none 0 0)).run Tryd.prog w = .ok (.bool false) w := fun w => Lib.run_eql_slice_nil w 26 5 (some ad) _ _ _ _ Tryd.underlying26
    go_enter Tryd.func37, Tryd.ntmps37
    go_wp2_with (at_builtin; go_loud (refine wpList_append_sl rfl _ _ 26 rfl w.heap.size 5 i0 (.int .u8 0) 1 Tryd.underlying26 hi hz0 hz1 hz2 rfl _ 0 [] rfl hown0 (.slice (some ad) bs.length cap) (bs.map (Value.int .u8)) rfl hs1 (one8 _) (by have := HN.out; rw [List.length_map]; unfold maxLen; omega) (by have := HN.out; rw [List.length_map]; omega) (by simp) ?_))
    intro v1 w4 hown1 hg4
    have hb4 := below_grown hb0 hown0 (Nat.le_refl _) (by simp) hg4
    clear hg4 hown0
    go_wp2
    go_ret
    exact ⟨_, rfl, by unfold OB; simpa using hown1, hb4⟩

def OBAll (w : World) (base : Nat) : List Value → List (List Int) → Prop
  | [], [] => True
  | u :: us, p :: ps => OB w base u p ∧ OBAll w base us ps
  | _, _ => False
theorem OBAll.len {w : World} {base : Nat} : ∀ {us : List Value} {ps : List (List Int)}, OBAll w base us ps → us.length = ps.length
  | [], [], _ => rfl
  | [], _ :: _, h => h.elim
  | _ :: _, [], h => h.elim
  | _ :: _, _ :: _, h => by simp [OBAll.len h.2]
theorem OBAll.at {w : World} {base : Nat} : ∀ {us : List Value} {ps : List (List Int)}, OBAll w base us ps → ∀ (i : Nat) (u : Value) (p : List Int), us[i]? = some u → ps[i]? = some p → OB w base u p
  | [], [], _, i, u, p, hu, _ => by simp at hu
  | [], _ :: _, h, _, _, _, _, _ => h.elim
  | _ :: _, [], h, _, _, _, _, _ => h.elim
  | u0 :: us, p0 :: ps, h, 0, u, p, hu, hp => by simp at hu hp; subst hu hp; exact h.1
  | u0 :: us, p0 :: ps, h, i + 1, u, p, hu, hp => OBAll.at h.2 i u p (by simpa using hu) (by simpa using hp)
theorem OBAll.mono {w w' : World} {base base' : Nat} (f : ∀ u p, OB w base u p → OB w' base' u p) : ∀ {us : List Value} {ps : List (List Int)}, OBAll w base us ps → OBAll w' base' us ps
  | [], [], _ => trivial
  | [], _ :: _, h => h.elim
  | _ :: _, [], h => h.elim
  | _ :: _, _ :: _, h => ⟨f _ _ h.1, OBAll.mono f h.2⟩
theorem OBAll.snoc {w : World} {base : Nat} {u : Value} {p : List Int} (hu : OB w base u p) : ∀ {us : List Value} {ps : List (List Int)}, OBAll w base us ps → OBAll w base (us ++ [u]) (ps ++ [p])
  | [], [], _ => ⟨hu, trivial⟩
  | [], _ :: _, h => h.elim
  | _ :: _, [], h => h.elim
  | _ :: _, _ :: _, h => ⟨h.1, OBAll.snoc hu h.2⟩
theorem OBAll.set {w : World} {base : Nat} {u : Value} {p : List Int} (hu : OB w base u p) : ∀ {us : List Value} {ps : List (List Int)} (k : Nat), OBAll w base us ps → OBAll w base (us.set k u) (ps.set k p)
  | [], [], _, _ => trivial
  | [], _ :: _, _, h => h.elim
  | _ :: _, [], _, h => h.elim
  | _ :: _, _ :: _, 0, h => ⟨hu, h.2⟩
  | _ :: _, _ :: _, k + 1, h => ⟨h.1, OBAll.set hu k h.2⟩

/-- A list of texts, all of the call's own. -/
def OBs (w : World) (base : Nat) (v : Value) (pss : List (List Int)) : Prop := ∃ vs, w.ownsRow base 26 1 v pss.length vs ∧ OBAll w base vs pss
theorem OBs.nil (w : World) (base : Nat) : OBs w base (.slice none 0 0) [] := ⟨[], World.ownsRow_nil _ _ _ _, trivial⟩
theorem OBs.below {w w' : World} {base : Nat} {v : Value} {pss : List (List Int)} (h : OBs w base v pss) (hb : Below w.heap.size w w') : OBs w' base v pss := by
  obtain ⟨vs, h1, h2⟩ := h
  exact ⟨vs, ownsRow_below h1 hb (Nat.le_refl _), h2.mono fun u p q => q.below hb⟩
theorem OBs.base {w : World} {b0 b1 : Nat} {v : Value} {pss : List (List Int)} (h : OBs w b1 v pss) (hb : b0 ≤ b1) : OBs w b0 v pss := by
  obtain ⟨vs, h1, h2⟩ := h
  exact ⟨vs, ownsRow_low h1 hb, h2.mono fun u p q => q.base hb⟩
theorem OBs.only {ds : List Nat} {w w' : World} {base : Nat} {v : Value} {pss : List (List Int)} (h : OBs w base v pss) (ho : Only ds w w') (hd : ∀ g ∈ ds, ∀ cur, ¬ Blk w g 5 cur ∧ ¬ Blk w g 26 cur) : OBs w' base v pss := by
  obtain ⟨vs, h1, h2⟩ := h
  exact ⟨vs, ho.owns h1 fun g hg hm => by obtain ⟨cur, k⟩ := owns_blk h1 hg; exact (hd g hm cur).2 k, h2.mono fun u p q => q.only ho fun g hm cur => (hd g hm cur).1⟩
theorem OBAll.sl {w : World} {base : Nat} : ∀ {us : List Value} {ps : List (List Int)}, OBAll w base us ps → SlAll w us ps
  | [], [], _ => trivial
  | [], _ :: _, h => h.elim
  | _ :: _, [], h => h.elim
  | _ :: _, _ :: _, h => ⟨h.1.sl, OBAll.sl h.2⟩
theorem OBs.sls {w : World} {base : Nat} {v : Value} {pss : List (List Int)} (h : OBs w base v pss) : Sls w v pss := by
  obtain ⟨vs, h1, h2⟩ := h
  exact ⟨vs, Sl.of_owns h1, h2.len, h2.sl.at⟩
theorem OBs.val {w : World} {base : Nat} {v : Value} {pss : List (List Int)} (h : OBs w base v pss) : ∃ a c, v = .slice a pss.length c := by
  obtain ⟨a, c, h1, _⟩ := h.sls.shape
  exact ⟨a, c, h1⟩
/-- An element: where it lies. -/
theorem OBs.at {w : World} {base : Nat} {a : Option Addr} {n c : Nat} {pss : List (List Int)} (h : OBs w base (.slice a n c) pss) {k : Nat} {p : List Int} (hk : pss[k]? = some p) :
    ∃ b u, a = some ⟨b, 0, none⟩ ∧ b < w.heap.size ∧ w.cell? ⟨b, k, none⟩ = some u ∧ w.frozen? ⟨b, k, none⟩ = false ∧ OB w base u p := by
  obtain ⟨vs, h1, h2⟩ := h
  have hkl : k < vs.length := by
    rw [h2.len]
    exact (List.getElem?_eq_some_iff.1 hk).1
  have hpl : k < pss.length := (List.getElem?_eq_some_iff.1 hk).1
  obtain ⟨g, cap, hv, hb, hlt⟩ := h1.form (by omega)
  cases hv
  have h3 := h1.cellAt k (by omega)
  rw [List.getElem?_eq_getElem hkl] at h3
  obtain ⟨cur, kk⟩ := owns_blk h1 (g := g) rfl
  exact ⟨g, vs[k], rfl, hlt, h3, kk.frozen k, h2.at k _ _ (List.getElem?_eq_getElem hkl) hk⟩

theorem infoTB : (Tryd.prog.info? 26).map (fun i => (i.zero, i.size, i.bytes)) = some (some (.slice none 0 0), 1, 24) := by kernel_rfl

theorem run_append_ob {w : World} {ty : TypeId} (base : Nat) (v : Value) (pss : List (List Int)) (hown : OBs w base v pss) (b cap : Nat) (u : Value) (hc : w.cell? ⟨b, 0, none⟩ = some u) (p : List Int) (hu : OB w base u p) (h63 : pss.length + 1 ≤ 5000000000000) (hbase : base ≤ w.heap.size) :
    ∃ v' w', (Builtin.append_ #[27, 27] ty #[v, .slice (some ⟨b, 0, none⟩) 1 cap]).run Tryd.prog w = .ok v' w' ∧ OBs w' base v' (pss ++ [p]) ∧ Below base w w' ∧ w.grownBy w' v.ownBlock := by
  obtain ⟨vs, h1, h2⟩ := hown
  obtain ⟨i0, hi, hz0, hz1, hz2⟩ := info_parts infoTB
  obtain ⟨ua, un, uc, rfl⟩ := hu.sl.val
  obtain ⟨v', w', hrun, hown', hg, _⟩ := run_append_own (P := Tryd.prog) w base 27 ty 26 i0 (.slice none 0 0) 1 24 Tryd.underlying27 hi hz0 hz1 hz2 rfl (by decide) v pss.length vs h1 ⟨b, 0, none⟩ 1 cap [.slice ua un uc] rfl
    (fun j y hj => by
      match j, hj with
      | 0, hj => simp at hj; subst hj; exact hc
      | j + 1, hj => simp at hj) (by simp [Value.oneCell']) (by unfold maxLen; omega) (by omega) hbase
  have hk : ∀ x q, OB w base x q → OB w' base x q := fun x q ho => by
    unfold OB at ho ⊢
    obtain ⟨e1, e2⟩ := ho
    refine ⟨e1, ?_⟩
    rcases e2 with e2 | ⟨g, c2, cur, rfl, hbg, hh, r⟩
    · exact Or.inl e2
    · have hlt : g < w.heap.size := (show Blk w g 5 cur from hh).lt
      refine Or.inr ⟨g, c2, cur, rfl, hbg, (hg.block g hlt fun e => ?_).trans hh, r⟩
      obtain ⟨cur2, k2⟩ := owns_blk h1 e.symm
      exact Blk.ne_ (show Blk w g 5 cur from hh) k2 (by decide) rfl
  refine ⟨v', w', hrun, ⟨_, by simpa using hown', (h2.mono hk).snoc (hk _ _ hu)⟩, (Below.refl _ _).grown hg hbase (fun k hk => (h1.lt k hk).1), hg⟩

theorem wpList_append_ob {w : World} {ops : Array Oper} {rest : List Oper} {o : Oper} {a : Act} {Q : Exit → Act → World → Prop} (hgd : o.guard = none) (s x : Operand)
    (ho : o.op = .call { callee := .builtin .append, args := #[s, x], argTypes := #[27, 27] })
    (base : Nat) (v : Value) (pss : List (List Int)) (hs : a.eval s = v) (hown : OBs w base v pss)
    (b cap : Nat) (hx : a.eval x = .slice (some ⟨b, 0, none⟩) 1 cap) (u : Value) (hc : w.cell? ⟨b, 0, none⟩ = some u) (p : List Int) (hu : OB w base u p)
    (h63 : pss.length + 1 ≤ 5000000000000) (hbase : base ≤ w.heap.size)
    (h : ∀ v' w', OBs w' base v' (pss ++ [p]) → Below base w w' → w.grownBy w' v.ownBlock → wpList Tryd.prog ops Q rest (a.put o.dst v') w') : wpList Tryd.prog ops Q (o :: rest) a w := by
  obtain ⟨v', w', hrun, q1, q2, q3⟩ := run_append_ob (ty := o.type) base v pss hown b cap u hc p hu h63 hbase
  refine wpList_plain hgd fun K hK => ?_
  unfold Oper.wp
  simp [execOp, ho, resolve, invoke, builtin, hs, hx, hrun, Result.andThen]
  exact hK _ _ (h v' w' q1 q2 q3)

theorem step_append_ob {w : World} {ops : Array Oper} {o : Oper} {a : Act} {K : Act → World → Prop} {Q : Exit → Act → World → Prop} {E : Prop} (hgd : o.guard = none) (s x : Operand)
    (ho : o.op = .call { callee := .builtin .append, args := #[s, x], argTypes := #[27, 27] })
    (base : Nat) (v : Value) (pss : List (List Int)) (hs : a.eval s = v) (hown : OBs w base v pss)
    (b cap : Nat) (hx : a.eval x = .slice (some ⟨b, 0, none⟩) 1 cap) (u : Value) (hc : w.cell? ⟨b, 0, none⟩ = some u) (p : List Int) (hu : OB w base u p)
    (h63 : pss.length + 1 ≤ 5000000000000) (hbase : base ≤ w.heap.size)
    (h : ∀ v' w', OBs w' base v' (pss ++ [p]) → Below base w w' → w.grownBy w' v.ownBlock → K (a.put o.dst v') w') : if Region.wanted o (yielded ops a.tmps) = true then Oper.wp Tryd.prog o a w K Q else E := by
  obtain ⟨v', w', hrun, q1, q2, q3⟩ := run_append_ob (ty := o.type) base v pss hown b cap u hc p hu h63 hbase
  have hw : Region.wanted o (yielded ops a.tmps) = true := by simp [Region.wanted, hgd]
  rw [if_pos hw]
  unfold Oper.wp
  simp [execOp, ho, resolve, invoke, builtin, hs, hx, hrun, Result.andThen]
  exact h v' w' q1 q2 q3

end Go.Proofs.YtgfkejecigefbaaDoor
