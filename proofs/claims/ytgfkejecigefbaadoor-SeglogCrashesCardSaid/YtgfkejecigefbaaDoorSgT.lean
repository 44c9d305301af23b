
/- Texts that lie in blocks of bytes, and rows of such. Conditions: none. -/
import Derived.Test.YtgfkejecigefbaaDoorDvE
import Derived.Test.YtgfkejecigefbaaDoorCuts
namespace Go.Proofs.YtgfkejecigefbaaDoor
open Go.RowKit
set_option linter.unusedVariables false

/-- A text in a block of bytes, that lies at or behind the base. -/
def TB (w : World) (base : Nat) (v : Value) (bs : List Int) : Prop :=
  ∃ b o c, v = .slice (some ⟨b, o, none⟩) bs.length c ∧ bs.length ≤ c ∧ c ≤ maxLen ∧ base ≤ b ∧ (∃ cur, Blk w b 5 cur) ∧ ∀ j u, (bs.map (Value.int .u8))[j]? = some u → w.cell? ⟨b, o + j, none⟩ = some u
theorem TB.sl {w : World} {base : Nat} {v : Value} {bs : List Int} (h : TB w base v bs) : Sl w v (bs.map (Value.int .u8)) := by
  obtain ⟨b, o, c, rfl, h1, h2, _, ⟨cur, k⟩, h5⟩ := h
  exact ⟨_, c, by rw [List.length_map], by rw [List.length_map]; exact h1, h2, fun _ => ⟨b, o, rfl, k.lt, h5⟩⟩
theorem TB.only {ds : List Nat} {w w' : World} {base : Nat} {v : Value} {bs : List Int} (h : TB w base v bs) (ho : Only ds w w') (hd : ∀ g ∈ ds, ∀ cur, ¬ Blk w g 5 cur) : TB w' base v bs := by
  obtain ⟨b, o, c, rfl, h1, h2, h3, ⟨cur, k⟩, h5⟩ := h
  have hn : b ∉ ds := fun hm => hd b hm cur k
  exact ⟨b, o, c, rfl, h1, h2, h3, ⟨cur, ho.blk k hn⟩, fun j u hu => (ho.cell (p := ⟨b, o + j, none⟩) k.lt hn).trans (h5 j u hu)⟩
theorem TB.below {w w' : World} {base : Nat} {v : Value} {bs : List Int} (h : TB w base v bs) (hb : Below w.heap.size w w') : TB w' base v bs := h.only (Only.of_below [] hb) (by simp)
theorem TB.base {w : World} {b0 b1 : Nat} {v : Value} {bs : List Int} (h : TB w b1 v bs) (hb : b0 ≤ b1) : TB w b0 v bs := by
  obtain ⟨b, o, c, rfl, h1, h2, h3, r⟩ := h
  exact ⟨b, o, c, rfl, h1, h2, Nat.le_trans hb h3, r⟩
theorem TB.ofOB {w : World} {base : Nat} {v : Value} {bs : List Int} (h : OB w base v bs) (hp : 0 < bs.length) : TB w base v bs := by
  unfold OB at h
  obtain ⟨cur0, k0⟩ : ∃ cur, ∀ g, v.ownBlock = some g → Blk w g 5 cur := by
    rcases h.2 with ⟨rfl, _⟩ | ⟨g', cap, cur, rfl, _, hh, _⟩
    · exact ⟨#[], fun g e => by simp [Value.ownBlock] at e⟩
    · exact ⟨cur, fun g e => by obtain rfl : g' = g := by simpa [Value.ownBlock] using e
                                exact hh⟩
  have hsl := Sl.of_owns h
  obtain ⟨g, cap, rfl, hb, hlt⟩ := h.form hp
  obtain ⟨a', c', e, h1, h2, h3⟩ := hsl
  rw [List.length_map] at e h1 h3
  cases e
  obtain ⟨b, off, e, _, hc⟩ := h3 hp
  cases e
  exact ⟨_, _, cap, rfl, h1, h2, hb, ⟨cur0, k0 _ rfl⟩, hc⟩
/-- A part of it. -/
theorem TB.part {w : World} {base b o n c : Nat} {bs : List Int} (h : TB w base (.slice (some ⟨b, o, none⟩) n c) bs) (i m c' : Nat) (hm : i + m ≤ bs.length) (hc1 : m ≤ c') (hc2 : c' ≤ maxLen) : TB w base (.slice (some ⟨b, o + i, none⟩) m c') ((bs.drop i).take m) := by
  obtain ⟨b, o, c, e, h1, h2, h3, h4, h5⟩ := h
  cases e
  have hl : ((bs.drop i).take m).length = m := by rw [List.length_take, List.length_drop]; omega
  refine ⟨b, o + i, c', by rw [hl], by rw [hl]; exact hc1, hc2, h3, h4, fun j u hu => ?_⟩
  rw [List.getElem?_map, List.getElem?_take] at hu
  split at hu
  · rw [List.getElem?_drop, ← List.getElem?_map] at hu
    have := h5 _ u hu
    rwa [← Nat.add_assoc] at this
  · cases hu

def TBAll (w : World) (base : Nat) : List Value → List (List Int) → Prop
  | [], [] => True
  | [], _ :: _ => False
  | _ :: _, [] => False
  | u :: us, p :: ps => TB w base u p ∧ TBAll w base us ps
theorem TBAll.len {w : World} {base : Nat} : ∀ {us : List Value} {ps : List (List Int)}, TBAll w base us ps → us.length = ps.length
  | [], [], _ => rfl
  | [], _ :: _, h => h.elim
  | _ :: _, [], h => h.elim
  | _ :: _, _ :: _, h => congrArg (· + 1) (TBAll.len h.2)
theorem TBAll.mono {w w' : World} {base base' : Nat} (f : ∀ u p, TB w base u p → TB w' base' u p) : ∀ {us : List Value} {ps : List (List Int)}, TBAll w base us ps → TBAll w' base' us ps
  | [], [], _ => trivial
  | [], _ :: _, h => h.elim
  | _ :: _, [], h => h.elim
  | _ :: _, _ :: _, h => ⟨f _ _ h.1, TBAll.mono f h.2⟩
theorem TBAll.snoc {w : World} {base : Nat} {u : Value} {p : List Int} (hu : TB w base u p) : ∀ {us : List Value} {ps : List (List Int)}, TBAll w base us ps → TBAll w base (us ++ [u]) (ps ++ [p])
  | [], [], _ => ⟨hu, trivial⟩
  | [], _ :: _, h => h.elim
  | _ :: _, [], h => h.elim
  | _ :: _, _ :: _, h => ⟨h.1, TBAll.snoc hu h.2⟩
theorem TBAll.sl {w : World} {base : Nat} : ∀ {us : List Value} {ps : List (List Int)}, TBAll w base us ps → SlAll w us ps
  | [], [], _ => trivial
  | [], _ :: _, h => h.elim
  | _ :: _, [], h => h.elim
  | _ :: _, _ :: _, h => ⟨h.1.sl, TBAll.sl h.2⟩
theorem TBAll.ofOB {w : World} {base : Nat} : ∀ {us : List Value} {ps : List (List Int)}, (∀ p ∈ ps, 0 < p.length) → OBAll w base us ps → TBAll w base us ps
  | [], [], _, _ => trivial
  | [], _ :: _, _, h => h.elim
  | _ :: _, [], _, h => h.elim
  | _ :: _, _ :: _, q, h => ⟨TB.ofOB h.1 (q _ (by simp)), TBAll.ofOB (fun p hp => q p (by simp [hp])) h.2⟩

/-- A row of the call's own, of texts in blocks of bytes. -/
def TBs (w : World) (base : Nat) (v : Value) (pss : List (List Int)) : Prop := ∃ vs, w.ownsRow base 26 1 v pss.length vs ∧ TBAll w base vs pss
theorem TBs.nil (w : World) (base : Nat) : TBs w base (.slice none 0 0) [] := ⟨[], World.ownsRow_nil _ _ _ _, trivial⟩
theorem TBs.only {ds : List Nat} {w w' : World} {base : Nat} {v : Value} {pss : List (List Int)} (h : TBs w base v pss) (ho : Only ds w w') (hd : ∀ g ∈ ds, ∀ cur, ¬ Blk w g 5 cur) (hv : ∀ g, v.ownBlock = some g → g ∉ ds) : TBs w' base v pss := by
  obtain ⟨vs, h1, h2⟩ := h
  exact ⟨vs, ho.owns h1 hv, h2.mono fun u p q => q.only ho hd⟩
theorem TBs.below {w w' : World} {base : Nat} {v : Value} {pss : List (List Int)} (h : TBs w base v pss) (hb : Below w.heap.size w w') : TBs w' base v pss := h.only (Only.of_below [] hb) (by simp) (by simp)
theorem TBs.base {w : World} {b0 b1 : Nat} {v : Value} {pss : List (List Int)} (h : TBs w b1 v pss) (hb : b0 ≤ b1) : TBs w b0 v pss := by
  obtain ⟨vs, h1, h2⟩ := h
  exact ⟨vs, ownsRow_low h1 hb, h2.mono fun u p q => q.base hb⟩
theorem TBs.sls {w : World} {base : Nat} {v : Value} {pss : List (List Int)} (h : TBs w base v pss) : Sls w v pss := by
  obtain ⟨vs, h1, h2⟩ := h
  exact ⟨vs, Sl.of_owns h1, h2.len, h2.sl.at⟩
theorem TBs.val {w : World} {base : Nat} {v : Value} {pss : List (List Int)} (h : TBs w base v pss) : ∃ a c, v = .slice a pss.length c := by
  obtain ⟨a, c, h1, _⟩ := h.sls.shape
  exact ⟨a, c, h1⟩
theorem OBs.tbs {w : World} {base : Nat} {v : Value} {pss : List (List Int)} (h : OBs w base v pss) (hp : ∀ p ∈ pss, 0 < p.length) : TBs w base v pss := by
  obtain ⟨vs, h1, h2⟩ := h
  exact ⟨vs, h1, TBAll.ofOB hp h2⟩
/-- The row's own block: of which type, and how far up. -/
theorem TBs.blk {w : World} {base : Nat} {v : Value} {pss : List (List Int)} (h : TBs w base v pss) {g : Nat} (hg : v.ownBlock = some g) : ∃ cur, Blk w g 26 cur := by
  obtain ⟨vs, h1, _⟩ := h
  exact owns_blk h1 hg
theorem TBs.low {w : World} {base : Nat} {v : Value} {pss : List (List Int)} (h : TBs w base v pss) {g : Nat} (hg : v.ownBlock = some g) : base ≤ g ∧ g < w.heap.size := by
  obtain ⟨vs, h1, _⟩ := h
  exact h1.lt g hg
theorem TBs.noText {w : World} {base : Nat} {v : Value} {pss : List (List Int)} (h : TBs w base v pss) : ∀ g ∈ v.ownBlock.toList, ∀ cur, ¬ Blk w g 5 cur := by
  intro g hg cur k
  obtain ⟨cur2, k2⟩ := h.blk (g := g) (by simpa using hg)
  exact Blk.ne_ k k2 (by decide) rfl

theorem run_append_where {P : Program} (w : World) (base : Nat) (t ty e : TypeId) (i : TypeInfo) (z : Value) (size bytes : Nat) (ht : P.underlying t = some (.slice e)) (hi : P.info? e = some i) (hz : i.zero = some z)
    (hsize : i.size = size) (hby : i.bytes = bytes) (hzs : z.cells.size = size) (hsz : 0 < size)
    (v : Value) (n : Nat) (xs : List Value) (hown : w.ownsRow base e size v n xs)
    (a : Addr) (m c : Nat) (news : List Value) (hl : news.length = m * size) (hnews : ∀ j u, news[j]? = some u → w.cell? (a.add j) = some u) (h1 : ∀ u ∈ news, u.oneCell' = true) (hm : 0 < m)
    (h63 : n + m ≤ maxLen) (hbytes : (n + m) * bytes ≤ 140737488355328) (hbase : base ≤ w.heap.size) :
    ∃ v' w', (Builtin.append_ #[t, t] ty #[v, .slice (some a) m c]).run P w = .ok v' w' ∧ (v'.ownBlock = v.ownBlock ∨ ∃ g, v'.ownBlock = some g ∧ w.heap.size ≤ g) := by
  subst hsize
  subst hby
  have hsmall : n + m ≤ 9223372036854775807 := by simp only [maxLen] at h63; omega
  rcases hown.2 with ⟨rfl, rfl⟩ | ⟨g, cap, cur, rfl, hbg, hg, hnc, hcm, hcs, htake⟩
  · have hr := run_append_nil (P := P) w t ty e i z ht hi hz a m c news hl hnews (by omega) (by omega) (by have hb := hbytes; simp only [Nat.zero_add] at hb; omega)
    exact ⟨_, _, hr, .inr ⟨_, rfl, Nat.le_refl _⟩⟩
  · by_cases hroom : n + m ≤ cap
    · have hfit : n * i.size + news.length ≤ cur.size := by rw [hl, hcs, ← Nat.add_mul]; exact Nat.mul_le_mul_right _ hroom
      have hr := run_append_room (P := P) w t ty e i ht hi g n cap cur hg a m c news hl hnews h1 hroom hfit
      exact ⟨_, _, hr, .inl rfl⟩
    · have holds : ∀ j u, xs[j]? = some u → w.cell? ((⟨g, 0, none⟩ : Addr).add j) = some u := hown.cells (g := g) rfl
      have hr := run_append_grow (P := P) w t ty e i z ht hi hz ⟨g, 0, none⟩ n cap xs hown.1 holds a m c news hl hnews (by omega) (by omega) (growslice_fits (by omega) hbytes)
      exact ⟨_, _, hr, .inr ⟨_, rfl, Nat.le_refl _⟩⟩

theorem run_append_tb {w : World} {ty : TypeId} (base : Nat) (v : Value) (pss : List (List Int)) (hown : TBs w base v pss) (b cap : Nat) (u : Value) (hc : w.cell? ⟨b, 0, none⟩ = some u) (p : List Int) (hu : TB w base u p) (h63 : pss.length + 1 ≤ 5000000000000) (hbase : base ≤ w.heap.size) :
    ∃ v' w', (Builtin.append_ #[27, 27] ty #[v, .slice (some ⟨b, 0, none⟩) 1 cap]).run Tryd.prog w = .ok v' w' ∧ TBs w' base v' (pss ++ [p]) ∧ Below base w w' ∧ w.grownBy w' v.ownBlock ∧ (v'.ownBlock = v.ownBlock ∨ ∃ g, v'.ownBlock = some g ∧ w.heap.size ≤ g) := by
  have hno := hown.noText
  obtain ⟨vs, h1, h2⟩ := hown
  obtain ⟨i0, hi, hz0, hz1, hz2⟩ := info_parts infoTB
  obtain ⟨ua, un, uc, rfl⟩ := hu.sl.val
  obtain ⟨v', w', hrun, hown', hg, hsame⟩ := run_append_own (P := Tryd.prog) w base 27 ty 26 i0 (.slice none 0 0) 1 24 Tryd.underlying27 hi hz0 hz1 hz2 rfl (by decide) v pss.length vs h1 ⟨b, 0, none⟩ 1 cap [.slice ua un uc] rfl
    (fun j y hj => by
      match j, hj with
      | 0, hj => simp at hj; subst hj; exact hc
      | j + 1, hj => simp at hj) (by simp [Value.oneCell']) (by unfold maxLen; omega) (by omega) hbase
  obtain ⟨v2, w2, hrun2, hwh⟩ := run_append_where (P := Tryd.prog) w base 27 ty 26 i0 (.slice none 0 0) 1 24 Tryd.underlying27 hi hz0 hz1 hz2 rfl (by decide) v pss.length vs h1 ⟨b, 0, none⟩ 1 cap [.slice ua un uc] rfl
    (fun j y hj => by
      match j, hj with
      | 0, hj => simp at hj; subst hj; exact hc
      | j + 1, hj => simp at hj) (by simp [Value.oneCell']) (by decide) (by unfold maxLen; omega) (by omega) hbase
  obtain ⟨rfl, rfl⟩ : v' = v2 ∧ w' = w2 := by rw [hrun] at hrun2; injection hrun2 with e1 e2; exact ⟨e1, e2⟩
  have ho : Only v.ownBlock.toList w w' := ⟨hg.os, hg.tape, hg.output, hg.size, fun k hk hn => hg.block k hk fun e => hn (by simp [← e])⟩
  have hk : ∀ x q, TB w base x q → TB w' base x q := fun x q hx => hx.only ho hno
  refine ⟨v', w', hrun, ⟨_, by simpa using hown', (h2.mono hk).snoc (hk _ _ hu)⟩, (Below.refl _ _).grown hg hbase (fun k hk => (h1.lt k hk).1), hg, hwh⟩

theorem step_append_tb {w : World} {ops : Array Oper} {o : Oper} {a : Act} {K : Act → World → Prop} {Q : Exit → Act → World → Prop} {E : Prop} (hgd : o.guard = none) (s x : Operand)
    (ho : o.op = .call { callee := .builtin .append, args := #[s, x], argTypes := #[27, 27] })
    (base : Nat) (v : Value) (pss : List (List Int)) (hs : a.eval s = v) (hown : TBs w base v pss)
    (b cap : Nat) (hx : a.eval x = .slice (some ⟨b, 0, none⟩) 1 cap) (u : Value) (hc : w.cell? ⟨b, 0, none⟩ = some u) (p : List Int) (hu : TB w base u p)
    (h63 : pss.length + 1 ≤ 5000000000000) (hbase : base ≤ w.heap.size)
    (h : ∀ v' w', TBs w' base v' (pss ++ [p]) → Below base w w' → w.grownBy w' v.ownBlock → (v'.ownBlock = v.ownBlock ∨ ∃ g, v'.ownBlock = some g ∧ w.heap.size ≤ g) → K (a.put o.dst v') w') : if Region.wanted o (yielded ops a.tmps) = true then Oper.wp Tryd.prog o a w K Q else E := by
  obtain ⟨v', w', hrun, q1, q2, q3, q4⟩ := run_append_tb (ty := o.type) base v pss hown b cap u hc p hu h63 hbase
  have hw : Region.wanted o (yielded ops a.tmps) = true := by simp [Region.wanted, hgd]
  rw [if_pos hw]
  unfold Oper.wp
  simp [execOp, ho, resolve, invoke, builtin, hs, hx, hrun, Result.andThen]
  exact h v' w' q1 q2 q3 q4
theorem wpList_append_tb {w : World} {ops : Array Oper} {rest : List Oper} {o : Oper} {a : Act} {Q : Exit → Act → World → Prop} (hgd : o.guard = none) (s x : Operand)
    (ho : o.op = .call { callee := .builtin .append, args := #[s, x], argTypes := #[27, 27] })
    (base : Nat) (v : Value) (pss : List (List Int)) (hs : a.eval s = v) (hown : TBs w base v pss)
    (b cap : Nat) (hx : a.eval x = .slice (some ⟨b, 0, none⟩) 1 cap) (u : Value) (hc : w.cell? ⟨b, 0, none⟩ = some u) (p : List Int) (hu : TB w base u p)
    (h63 : pss.length + 1 ≤ 5000000000000) (hbase : base ≤ w.heap.size)
    (h : ∀ v' w', TBs w' base v' (pss ++ [p]) → Below base w w' → w.grownBy w' v.ownBlock → (v'.ownBlock = v.ownBlock ∨ ∃ g, v'.ownBlock = some g ∧ w.heap.size ≤ g) → wpList Tryd.prog ops Q rest (a.put o.dst v') w') : wpList Tryd.prog ops Q (o :: rest) a w := by
  obtain ⟨v', w', hrun, q1, q2, q3, q4⟩ := run_append_tb (ty := o.type) base v pss hown b cap u hc p hu h63 hbase
  refine wpList_plain hgd fun K hK => ?_
  unfold Oper.wp
  simp [execOp, ho, resolve, invoke, builtin, hs, hx, hrun, Result.andThen]
  exact hK _ _ (h v' w' q1 q2 q3 q4)

end Go.Proofs.YtgfkejecigefbaaDoor
