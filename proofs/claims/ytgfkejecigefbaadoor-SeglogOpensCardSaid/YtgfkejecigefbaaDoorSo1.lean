
/- Texts that lie in blocks of bytes, and rows of such. Conditions: none. The walk of SameTexts: whether two lists of texts are the same. seglog.next: the walk. Conditions: sectors of 64 bytes. A device: Read, Image. A log: where it lies; put. Conditions: none. A log: wipe. Conditions: none. A log: is there one, how many records, the room, has it stopped, the records. Conditions: none. A log: Open. Conditions: none. A log: Append, where nothing is written. Conditions: none. A log: Append, where sectors are written. Conditions: none. A device: New, of noughts. A log on a device that does not fail: plainly. Append whole; is the statements' own log awake. Conditions: none. -/
import Derived.Test.YtgfkejecigefbaaDoorDvE
import Derived.Test.YtgfkejecigefbaaDoorCuts
import Derived.Test.YtgfkejecigefbaaDoorTextA
import Derived.Test.YtgfkejecigefbaaDoorSgC
import Derived.Test.YtgfkejecigefbaaDoorDvB
import Derived.Deep.QuietTactic
import Derived.Laws.OwnMore
namespace Go.Proofs.YtgfkejecigefbaaDoor
open Go.RowKit
set_option linter.unusedVariables false

/-- A text in a block of bytes, that lies at or behind the base. -/
def TB (w : World) (base : Nat) (v : Value) (bs : List Int) : Prop :=
  ∃ b o c, v = .slice (some ⟨b, o, none⟩) bs.length c ∧ bs.length ≤ c ∧ c ≤ maxLen ∧ base ≤ b ∧ (∃ cur, Blk w b 5 cur) ∧ ∀ j u, (bs.map (Value.int .u8))[j]? = some u → w.cell? ⟨b, o + j, none⟩ = some u
theorem TB.sl {w : World} {base : Nat} {v : Value} {bs : List Int} (h : TB w base v bs) : Sl w v (bs.map (Value.int .u8)) := by
  obtain ⟨b, o, c, rfl, h1, h2, _, ⟨cur, k⟩, h5⟩ := h
  exact ⟨_, c, by rw [List.length_map], by rw [List.length_map]; exact h1, h2, fun _ => ⟨b, o, rfl, k.lt, h5⟩⟩
theorem TB.only {ds : List Nat} {w w' : World} {base : Nat} {v : Value} {bs : List Int} (h : TB w base v bs) (ho : Only ds w w') (hd : ∀ g ∈ ds, ∀ cur, ¬ Blk w g 5 cur) : TB w' base v bs := by
  obtain ⟨b, o, c, rfl, h1, h2, h3, ⟨cur, k⟩, h5⟩ := h
  have hn : b ∉ ds := fun hm => hd b hm cur k
  exact ⟨b, o, c, rfl, h1, h2, h3, ⟨cur, ho.blk k hn⟩, fun j u hu => (ho.cell (p := ⟨b, o + j, none⟩) k.lt hn).trans (h5 j u hu)⟩
theorem TB.below {w w' : World} {base : Nat} {v : Value} {bs : List Int} (h : TB w base v bs) (hb : Below w.heap.size w w') : TB w' base v bs := h.only (Only.of_below [] hb) (by simp)
theorem TB.base {w : World} {b0 b1 : Nat} {v : Value} {bs : List Int} (h : TB w b1 v bs) (hb : b0 ≤ b1) : TB w b0 v bs := by
  obtain ⟨b, o, c, rfl, h1, h2, h3, r⟩ := h
  exact ⟨b, o, c, rfl, h1, h2, Nat.le_trans hb h3, r⟩
theorem TB.ofOB {w : World} {base : Nat} {v : Value} {bs : List Int} (h : OB w base v bs) (hp : 0 < bs.length) : TB w base v bs := by
  unfold OB at h
  obtain ⟨cur0, k0⟩ : ∃ cur, ∀ g, v.ownBlock = some g → Blk w g 5 cur := by
    rcases h.2 with ⟨rfl, _⟩ | ⟨g', cap, cur, rfl, _, hh, _⟩
    · exact ⟨#[], fun g e => by simp [Value.ownBlock] at e⟩
    · exact ⟨cur, fun g e => by obtain rfl : g' = g := by simpa [Value.ownBlock] using e
                                exact hh⟩
  have hsl := Sl.of_owns h
  obtain ⟨g, cap, rfl, hb, hlt⟩ := h.form hp
  obtain ⟨a', c', e, h1, h2, h3⟩ := hsl
  rw [List.length_map] at e h1 h3
  cases e
  obtain ⟨b, off, e, _, hc⟩ := h3 hp
  cases e
  exact ⟨_, _, cap, rfl, h1, h2, hb, ⟨cur0, k0 _ rfl⟩, hc⟩
/-- A part of it. -/
theorem TB.part {w : World} {base b o n c : Nat} {bs : List Int} (h : TB w base (.slice (some ⟨b, o, none⟩) n c) bs) (i m c' : Nat) (hm : i + m ≤ bs.length) (hc1 : m ≤ c') (hc2 : c' ≤ maxLen) : TB w base (.slice (some ⟨b, o + i, none⟩) m c') ((bs.drop i).take m) := by
  obtain ⟨b, o, c, e, h1, h2, h3, h4, h5⟩ := h
  cases e
  have hl : ((bs.drop i).take m).length = m := by rw [List.length_take, List.length_drop]; omega
  refine ⟨b, o + i, c', by rw [hl], by rw [hl]; exact hc1, hc2, h3, h4, fun j u hu => ?_⟩
  rw [List.getElem?_map, List.getElem?_take] at hu
  split at hu
  · rw [List.getElem?_drop, ← List.getElem?_map] at hu
    have := h5 _ u hu
    rwa [← Nat.add_assoc] at this
  · cases hu

def TBAll (w : World) (base : Nat) : List Value → List (List Int) → Prop
  | [], [] => True
  | [], _ :: _ => False
  | _ :: _, [] => False
  | u :: us, p :: ps => TB w base u p ∧ TBAll w base us ps
theorem TBAll.len {w : World} {base : Nat} : ∀ {us : List Value} {ps : List (List Int)}, TBAll w base us ps → us.length = ps.length
  | [], [], _ => rfl
  | [], _ :: _, h => h.elim
  | _ :: _, [], h => h.elim
  | _ :: _, _ :: _, h => congrArg (· + 1) (TBAll.len h.2)
theorem TBAll.mono {w w' : World} {base base' : Nat} (f : ∀ u p, TB w base u p → TB w' base' u p) : ∀ {us : List Value} {ps : List (List Int)}, TBAll w base us ps → TBAll w' base' us ps
  | [], [], _ => trivial
  | [], _ :: _, h => h.elim
  | _ :: _, [], h => h.elim
  | _ :: _, _ :: _, h => ⟨f _ _ h.1, TBAll.mono f h.2⟩
theorem TBAll.snoc {w : World} {base : Nat} {u : Value} {p : List Int} (hu : TB w base u p) : ∀ {us : List Value} {ps : List (List Int)}, TBAll w base us ps → TBAll w base (us ++ [u]) (ps ++ [p])
  | [], [], _ => ⟨hu, trivial⟩
  | [], _ :: _, h => h.elim
  | _ :: _, [], h => h.elim
  | _ :: _, _ :: _, h => ⟨h.1, TBAll.snoc hu h.2⟩
theorem TBAll.sl {w : World} {base : Nat} : ∀ {us : List Value} {ps : List (List Int)}, TBAll w base us ps → SlAll w us ps
  | [], [], _ => trivial
  | [], _ :: _, h => h.elim
  | _ :: _, [], h => h.elim
  | _ :: _, _ :: _, h => ⟨h.1.sl, TBAll.sl h.2⟩
theorem TBAll.ofOB {w : World} {base : Nat} : ∀ {us : List Value} {ps : List (List Int)}, (∀ p ∈ ps, 0 < p.length) → OBAll w base us ps → TBAll w base us ps
  | [], [], _, _ => trivial
  | [], _ :: _, _, h => h.elim
  | _ :: _, [], _, h => h.elim
  | _ :: _, _ :: _, q, h => ⟨TB.ofOB h.1 (q _ (by simp)), TBAll.ofOB (fun p hp => q p (by simp [hp])) h.2⟩

/-- A row of the call's own, of texts in blocks of bytes. -/
def TBs (w : World) (base : Nat) (v : Value) (pss : List (List Int)) : Prop := ∃ vs, w.ownsRow base 26 1 v pss.length vs ∧ TBAll w base vs pss
theorem TBs.nil (w : World) (base : Nat) : TBs w base (.slice none 0 0) [] := ⟨[], World.ownsRow_nil _ _ _ _, trivial⟩
theorem TBs.only {ds : List Nat} {w w' : World} {base : Nat} {v : Value} {pss : List (List Int)} (h : TBs w base v pss) (ho : Only ds w w') (hd : ∀ g ∈ ds, ∀ cur, ¬ Blk w g 5 cur) (hv : ∀ g, v.ownBlock = some g → g ∉ ds) : TBs w' base v pss := by
  obtain ⟨vs, h1, h2⟩ := h
  exact ⟨vs, ho.owns h1 hv, h2.mono fun u p q => q.only ho hd⟩
theorem TBs.below {w w' : World} {base : Nat} {v : Value} {pss : List (List Int)} (h : TBs w base v pss) (hb : Below w.heap.size w w') : TBs w' base v pss := h.only (Only.of_below [] hb) (by simp) (by simp)
theorem TBs.base {w : World} {b0 b1 : Nat} {v : Value} {pss : List (List Int)} (h : TBs w b1 v pss) (hb : b0 ≤ b1) : TBs w b0 v pss := by
  obtain ⟨vs, h1, h2⟩ := h
  exact ⟨vs, ownsRow_low h1 hb, h2.mono fun u p q => q.base hb⟩
theorem TBs.sls {w : World} {base : Nat} {v : Value} {pss : List (List Int)} (h : TBs w base v pss) : Sls w v pss := by
  obtain ⟨vs, h1, h2⟩ := h
  exact ⟨vs, Sl.of_owns h1, h2.len, h2.sl.at⟩
theorem TBs.val {w : World} {base : Nat} {v : Value} {pss : List (List Int)} (h : TBs w base v pss) : ∃ a c, v = .slice a pss.length c := by
  obtain ⟨a, c, h1, _⟩ := h.sls.shape
  exact ⟨a, c, h1⟩
theorem OBs.tbs {w : World} {base : Nat} {v : Value} {pss : List (List Int)} (h : OBs w base v pss) (hp : ∀ p ∈ pss, 0 < p.length) : TBs w base v pss := by
  obtain ⟨vs, h1, h2⟩ := h
  exact ⟨vs, h1, TBAll.ofOB hp h2⟩
/-- The row's own block: of which type, and how far up. -/
theorem TBs.blk {w : World} {base : Nat} {v : Value} {pss : List (List Int)} (h : TBs w base v pss) {g : Nat} (hg : v.ownBlock = some g) : ∃ cur, Blk w g 26 cur := by
  obtain ⟨vs, h1, _⟩ := h
  exact owns_blk h1 hg
theorem TBs.low {w : World} {base : Nat} {v : Value} {pss : List (List Int)} (h : TBs w base v pss) {g : Nat} (hg : v.ownBlock = some g) : base ≤ g ∧ g < w.heap.size := by
  obtain ⟨vs, h1, _⟩ := h
  exact h1.lt g hg
theorem TBs.noText {w : World} {base : Nat} {v : Value} {pss : List (List Int)} (h : TBs w base v pss) : ∀ g ∈ v.ownBlock.toList, ∀ cur, ¬ Blk w g 5 cur := by
  intro g hg cur k
  obtain ⟨cur2, k2⟩ := h.blk (g := g) (by simpa using hg)
  exact Blk.ne_ k k2 (by decide) rfl

theorem run_append_where {P : Program} (w : World) (base : Nat) (t ty e : TypeId) (i : TypeInfo) (z : Value) (size bytes : Nat) (ht : P.underlying t = some (.slice e)) (hi : P.info? e = some i) (hz : i.zero = some z)
    (hsize : i.size = size) (hby : i.bytes = bytes) (hzs : z.cells.size = size) (hsz : 0 < size)
    (v : Value) (n : Nat) (xs : List Value) (hown : w.ownsRow base e size v n xs)
    (a : Addr) (m c : Nat) (news : List Value) (hl : news.length = m * size) (hnews : ∀ j u, news[j]? = some u → w.cell? (a.add j) = some u) (h1 : ∀ u ∈ news, u.oneCell' = true) (hm : 0 < m)
    (h63 : n + m ≤ maxLen) (hbytes : (n + m) * bytes ≤ 140737488355328) (hbase : base ≤ w.heap.size) :
    ∃ v' w', (Builtin.append_ #[t, t] ty #[v, .slice (some a) m c]).run P w = .ok v' w' ∧ (v'.ownBlock = v.ownBlock ∨ ∃ g, v'.ownBlock = some g ∧ w.heap.size ≤ g) := by
  subst hsize
  subst hby
  have hsmall : n + m ≤ 9223372036854775807 := by simp only [maxLen] at h63; omega
  rcases hown.2 with ⟨rfl, rfl⟩ | ⟨g, cap, cur, rfl, hbg, hg, hnc, hcm, hcs, htake⟩
  · have hr := run_append_nil (P := P) w t ty e i z ht hi hz a m c news hl hnews (by omega) (by omega) (by have hb := hbytes; simp only [Nat.zero_add] at hb; omega)
    exact ⟨_, _, hr, .inr ⟨_, rfl, Nat.le_refl _⟩⟩
  · by_cases hroom : n + m ≤ cap
    · have hfit : n * i.size + news.length ≤ cur.size := by rw [hl, hcs, ← Nat.add_mul]; exact Nat.mul_le_mul_right _ hroom
      have hr := run_append_room (P := P) w t ty e i ht hi g n cap cur hg a m c news hl hnews h1 hroom hfit
      exact ⟨_, _, hr, .inl rfl⟩
    · have holds : ∀ j u, xs[j]? = some u → w.cell? ((⟨g, 0, none⟩ : Addr).add j) = some u := hown.cells (g := g) rfl
      have hr := run_append_grow (P := P) w t ty e i z ht hi hz ⟨g, 0, none⟩ n cap xs hown.1 holds a m c news hl hnews (by omega) (by omega) (growslice_fits (by omega) hbytes)
      exact ⟨_, _, hr, .inr ⟨_, rfl, Nat.le_refl _⟩⟩

theorem run_append_tb {w : World} {ty : TypeId} (base : Nat) (v : Value) (pss : List (List Int)) (hown : TBs w base v pss) (b cap : Nat) (u : Value) (hc : w.cell? ⟨b, 0, none⟩ = some u) (p : List Int) (hu : TB w base u p) (h63 : pss.length + 1 ≤ 5000000000000) (hbase : base ≤ w.heap.size) :
    ∃ v' w', (Builtin.append_ #[27, 27] ty #[v, .slice (some ⟨b, 0, none⟩) 1 cap]).run Tryd.prog w = .ok v' w' ∧ TBs w' base v' (pss ++ [p]) ∧ Below base w w' ∧ w.grownBy w' v.ownBlock ∧ (v'.ownBlock = v.ownBlock ∨ ∃ g, v'.ownBlock = some g ∧ w.heap.size ≤ g) := by
  have hno := hown.noText
  obtain ⟨vs, h1, h2⟩ := hown
  obtain ⟨i0, hi, hz0, hz1, hz2⟩ := info_parts infoTB
  obtain ⟨ua, un, uc, rfl⟩ := hu.sl.val
  obtain ⟨v', w', hrun, hown', hg, hsame⟩ := run_append_own (P := Tryd.prog) w base 27 ty 26 i0 (.slice none 0 0) 1 24 Tryd.underlying27 hi hz0 hz1 hz2 rfl (by decide) v pss.length vs h1 ⟨b, 0, none⟩ 1 cap [.slice ua un uc] rfl
    (fun j y hj => by
      match j, hj with
      | 0, hj => simp at hj; subst hj; exact hc
      | j + 1, hj => simp at hj) (by simp [Value.oneCell']) (by unfold maxLen; omega) (by omega) hbase
  obtain ⟨v2, w2, hrun2, hwh⟩ := run_append_where (P := Tryd.prog) w base 27 ty 26 i0 (.slice none 0 0) 1 24 Tryd.underlying27 hi hz0 hz1 hz2 rfl (by decide) v pss.length vs h1 ⟨b, 0, none⟩ 1 cap [.slice ua un uc] rfl
    (fun j y hj => by
      match j, hj with
      | 0, hj => simp at hj; subst hj; exact hc
      | j + 1, hj => simp at hj) (by simp [Value.oneCell']) (by decide) (by unfold maxLen; omega) (by omega) hbase
  obtain ⟨rfl, rfl⟩ : v' = v2 ∧ w' = w2 := by rw [hrun] at hrun2; injection hrun2 with e1 e2; exact ⟨e1, e2⟩
  have ho : Only v.ownBlock.toList w w' := ⟨hg.os, hg.tape, hg.output, hg.size, fun k hk hn => hg.block k hk fun e => hn (by simp [← e])⟩
  have hk : ∀ x q, TB w base x q → TB w' base x q := fun x q hx => hx.only ho hno
  refine ⟨v', w', hrun, ⟨_, by simpa using hown', (h2.mono hk).snoc (hk _ _ hu)⟩, (Below.refl _ _).grown hg hbase (fun k hk => (h1.lt k hk).1), hg, hwh⟩

theorem step_append_tb {w : World} {ops : Array Oper} {o : Oper} {a : Act} {K : Act → World → Prop} {Q : Exit → Act → World → Prop} {E : Prop} (hgd : o.guard = none) (s x : Operand)
    (ho : o.op = .call { callee := .builtin .append, args := #[s, x], argTypes := #[27, 27] })
    (base : Nat) (v : Value) (pss : List (List Int)) (hs : a.eval s = v) (hown : TBs w base v pss)
    (b cap : Nat) (hx : a.eval x = .slice (some ⟨b, 0, none⟩) 1 cap) (u : Value) (hc : w.cell? ⟨b, 0, none⟩ = some u) (p : List Int) (hu : TB w base u p)
    (h63 : pss.length + 1 ≤ 5000000000000) (hbase : base ≤ w.heap.size)
    (h : ∀ v' w', TBs w' base v' (pss ++ [p]) → Below base w w' → w.grownBy w' v.ownBlock → (v'.ownBlock = v.ownBlock ∨ ∃ g, v'.ownBlock = some g ∧ w.heap.size ≤ g) → K (a.put o.dst v') w') : if Region.wanted o (yielded ops a.tmps) = true then Oper.wp Tryd.prog o a w K Q else E := by
  obtain ⟨v', w', hrun, q1, q2, q3, q4⟩ := run_append_tb (ty := o.type) base v pss hown b cap u hc p hu h63 hbase
  have hw : Region.wanted o (yielded ops a.tmps) = true := by simp [Region.wanted, hgd]
  rw [if_pos hw]
  unfold Oper.wp
  simp [execOp, ho, resolve, invoke, builtin, hs, hx, hrun, Result.andThen]
  exact h v' w' q1 q2 q3 q4
theorem wpList_append_tb {w : World} {ops : Array Oper} {rest : List Oper} {o : Oper} {a : Act} {Q : Exit → Act → World → Prop} (hgd : o.guard = none) (s x : Operand)
    (ho : o.op = .call { callee := .builtin .append, args := #[s, x], argTypes := #[27, 27] })
    (base : Nat) (v : Value) (pss : List (List Int)) (hs : a.eval s = v) (hown : TBs w base v pss)
    (b cap : Nat) (hx : a.eval x = .slice (some ⟨b, 0, none⟩) 1 cap) (u : Value) (hc : w.cell? ⟨b, 0, none⟩ = some u) (p : List Int) (hu : TB w base u p)
    (h63 : pss.length + 1 ≤ 5000000000000) (hbase : base ≤ w.heap.size)
    (h : ∀ v' w', TBs w' base v' (pss ++ [p]) → Below base w w' → w.grownBy w' v.ownBlock → (v'.ownBlock = v.ownBlock ∨ ∃ g, v'.ownBlock = some g ∧ w.heap.size ≤ g) → wpList Tryd.prog ops Q rest (a.put o.dst v') w') : wpList Tryd.prog ops Q (o :: rest) a w := by
  obtain ⟨v', w', hrun, q1, q2, q3, q4⟩ := run_append_tb (ty := o.type) base v pss hown b cap u hc p hu h63 hbase
  refine wpList_plain hgd fun K hK => ?_
  unfold Oper.wp
  simp [execOp, ho, resolve, invoke, builtin, hs, hx, hrun, Result.andThen]
  exact hK _ _ (h v' w' q1 q2 q3 q4)

end Go.Proofs.YtgfkejecigefbaaDoor

namespace Go.Proofs.YtgfkejecigefbaaDoor
open Go.RowKit
set_option linter.unusedVariables false

theorem texts_differ {ps qs : List (List Int)} {k : Nat} (h : ps.getD k [] ≠ qs.getD k []) : decide (ps = qs) = false := by
  simp only [decide_eq_false_iff_not]
  rintro rfl
  exact h rfl
theorem texts_same {ps qs : List (List Int)} (hl : ps.length = qs.length) (h : ∀ j, j < ps.length → ps.getD j [] = qs.getD j []) : decide (ps = qs) = true := by
  simp only [decide_eq_true_eq]
  refine List.ext_getElem hl fun j h1 h2 => ?_
  have := h j h1
  rwa [List.getD_eq_getElem?_getD, List.getD_eq_getElem?_getD, List.getElem?_eq_getElem h1, List.getElem?_eq_getElem h2] at this
theorem isB_at {ps : List (List Int)} (h : ∀ p ∈ ps, IsB p) {k : Nat} (hk : k < ps.length) : IsB (ps.getD k []) := h _ (by rw [List.getD_eq_getElem?_getD, List.getElem?_eq_getElem hk]; exact List.getElem_mem hk)

set_option maxHeartbeats 1000000 in
theorem equalFunc_any (v1 v2 : Value) (ps qs : List (List Int)) (w : World) (h1 : Sls w v1 ps) (h2 : Sls w v2 qs) (hp : ∀ p ∈ ps, IsB p) (hq : ∀ p ∈ qs, IsB p) :
    Calls Tryd.prog 45 #[v1, v2, .func (.func 46) #[] #[]] w fun e w' => e = .returned (.bool (decide (ps = qs))) ∧ w = w' := by
  obtain ⟨a1, c1, rfl, hc1, hm1⟩ := h1.shape
  obtain ⟨a2, c2, rfl, hc2, hm2⟩ := h2.shape
  by_cases hl : ps.length = qs.length
  · have HL := Lib.hid hl
    rw [← hl] at h2 hc2
    rw [← hl]
    clear hl
    go_enter Tryd.func45, Tryd.ntmps45
    go_wp2
    go_loopw [17] (fun i wr => ∃ k : Nat, k ≤ ps.length ∧ i = .int .i64 k ∧ Hid (∀ j, j < k → ps.getD j [] = qs.getD j []) ∧ w = wr) (fun i _ => ps.length - (intOf i).toNat)
    case atStart => exact ⟨0, by omega, rfl, fun j hj => absurd hj (by omega), rfl⟩
    case round =>
      obtain ⟨k, hk, rfl, hall, rfl⟩ := hrel
      by_cases hlt : k < ps.length
      · obtain ⟨b1, o1, rfl, hb1, u1, hu1, hs1⟩ := h1.at hlt
        obtain ⟨b2, o2, rfl, hb2, u2, hu2, hs2⟩ := h2.at (k := k) (by rw [← HL.out]; exact hlt)
        have hkI : (k : Int) < (ps.length : Int) := by omega
        have he := Lib.hid (bytesEq_any u1 u2 _ _ w hs1 hs2 (isB_at hp hlt) (isB_at hq (k := k) (by rw [← HL.out]; exact hlt)))
        clear hs1 hs2
        go_wp2_with fail
        refine he.out.mono ?_
        by_cases hxy : ps.getD k [] = qs.getD k []
        · rw [show decide (ps.getD k [] = qs.getD k []) = true by simpa using hxy]
          rintro e w1 ⟨rfl, rfl⟩
          have HX := Lib.hid hxy
          clear hxy hu1 hu2 he
          go_wp2
          go_roundw
          case rel =>
            refine ⟨k + 1, by omega, by go_num, fun j hj => ?_, by first | rfl | trivial⟩
            rcases Nat.lt_or_ge j k with h | h
            · exact hall.out j h
            · obtain rfl : j = k := by omega
              exact HX.out
          case measure => simp [intOf]; omega
        · rw [show decide (ps.getD k [] = qs.getD k []) = false by simpa using hxy]
          rintro e w1 ⟨rfl, rfl⟩
          have HD := Lib.hid (texts_differ hxy)
          clear hxy hu1 hu2 he
          go_wp2
          go_ret
          exact ⟨ret_bool HD.out.symm, rfl⟩
      · have hkI : ¬ (k : Int) < (ps.length : Int) := by omega
        have HD := Lib.hid (texts_same HL.out fun j hj => hall.out j (by omega))
        go_wp2
        go_ret
        exact ⟨ret_bool HD.out.symm, rfl⟩
  · have hI : ¬ (ps.length : Int) = (qs.length : Int) := by omega
    have HD := Lib.hid (show decide (ps = qs) = false by simp only [decide_eq_false_iff_not]; rintro rfl; exact hl rfl)
    clear hl
    go_enter Tryd.func45, Tryd.ntmps45
    go_wp2
    go_ret
    exact ⟨ret_bool HD.out.symm, rfl⟩

theorem sameTexts_any (v1 v2 : Value) (ps qs : List (List Int)) (w : World) (h1 : Sls w v1 ps) (h2 : Sls w v2 qs) (hp : ∀ p ∈ ps, IsB p) (hq : ∀ p ∈ qs, IsB p) :
    Calls Tryd.prog 21 #[v1, v2] w fun e w' => e = .returned (.bool (decide (ps = qs))) ∧ w = w' := by
  have he := Lib.hid (equalFunc_any v1 v2 ps qs w h1 h2 hp hq)
  go_enter Tryd.func21, Tryd.ntmps21
  go_wp2_with fail
  refine he.out.mono ?_
  rintro e w1 ⟨rfl, rfl⟩
  go_wp2
  go_ret
  exact ⟨rfl, rfl⟩

end Go.Proofs.YtgfkejecigefbaaDoor

namespace Go.Proofs.YtgfkejecigefbaaDoor
open Go.RowKit
set_option linter.unusedVariables false

theorem getD_mem {pss : List (List Int)} {k : Nat} (h : k < pss.length) : pss.getD k [] ∈ pss := by
  rw [List.getD_eq_getElem?_getD, List.getElem?_eq_getElem h]; exact List.getElem_mem h

theorem Sl.part {w : World} {b o n c : Nat} {bs : List Int} (h : Sl w (.slice (some ⟨b, o, none⟩) n c) (bs.map (Value.int .u8))) (i m c' : Nat) (hm : i + m ≤ bs.length) (hc1 : m ≤ c') (hc2 : c' ≤ maxLen) : Sl w (.slice (some ⟨b, o + i, none⟩) m c') (((bs.drop i).take m).map (Value.int .u8)) := by
  obtain ⟨a, c0, e, h1, h2, h3⟩ := h
  rw [List.length_map] at e h1 h3
  cases e
  have hl : (((bs.drop i).take m).map (Value.int .u8)).length = m := by rw [List.length_map, List.length_take, List.length_drop]; omega
  refine ⟨_, c', by rw [hl], by rw [hl]; exact hc1, hc2, fun hp => ?_⟩
  obtain ⟨b', o', e, hlt, hc⟩ := h3 (by rw [hl] at hp; omega)
  cases e
  refine ⟨b, o + i, rfl, hlt, fun j u hu => ?_⟩
  rw [List.getElem?_map, List.getElem?_take] at hu
  split at hu
  · rw [List.getElem?_drop, ← List.getElem?_map] at hu
    have := hc _ u hu
    rwa [← Nat.add_assoc] at this
  · cases hu
theorem nextI_no {img : List (List Int)} {num : Int} (h : ¬ nextFit img) : nextI img num = none := by
  unfold nextI nextOk
  rw [decide_eq_false (fun q => h q.1)]
  rfl
def nextX (img : List (List Int)) (num : Int) (x : Value) (ln : Int) (ok : Bool) (w : World) (base : Nat) : Prop :=
  (ok = true → ∃ n : Nat, ln = n ∧ nextI img num = some (bodyI img, n) ∧ TB w base x (bodyI img)) ∧ (ok = false → nextI img num = none)

set_option maxRecDepth 100000 in
set_option maxHeartbeats 4000000 in
theorem next_any (v : Value) (pss : List (List Int)) (num : Int) (w : World) (hn0 : -9223372036854775808 ≤ num) (hn1 : num ≤ 9223372036854775807) (hlen : pss.length ≤ 16384) (h64 : ∀ p ∈ pss, p.length = 64) (hB : ∀ p ∈ pss, IsB p) (ht : Tabs w) (h : Sls w v pss) :
    Calls Tryd.prog 39 #[v, .int .i64 num] w fun e w' => ∃ xa xn xc ln ok, e = .returned (.tuple #[.slice xa xn xc, .int .i64 ln, .bool ok]) ∧ nextX pss num (.slice xa xn xc) ln ok w' w.heap.size ∧ Below w.heap.size w w' := by
  obtain ⟨a, cp, rfl, hc, hm⟩ := h.shape
  have HH := Lib.hid h
  clear h
  by_cases h0 : pss.length = 0
  · obtain rfl : pss = [] := List.eq_nil_of_length_eq_zero h0
    simp only [List.length_nil] at *
    go_enter Tryd.func39, Tryd.ntmps39
    go_wp2
    refine bodyPost_ret (results_tmp3 rfl _ _ _) rfl ?_
    refine ⟨_, _, _, _, _, rfl, ⟨fun e => (by cases e), fun _ => ?_⟩, Below.refl _ _⟩
    unfold nextI nextOk
    rw [decide_eq_false (by rintro ⟨⟨_, _, q⟩, _⟩; simp at q)]
    rfl
  · have hzI : ((pss.length : Int) == 0) = false := by rw [beq_eq_false_iff_ne]; omega
    have hpos : 0 < pss.length := by omega
    obtain ⟨ba, bo, rfl, hltb, u, hu, hus⟩ := HH.out.at hpos
    have hbd := lenAt_bd hB
    obtain ⟨N, hN⟩ : ∃ N : Nat, lenAt pss = N := ⟨(lenAt pss).toNat, by omega⟩
    rw [hN] at hbd
    have h64a := h64 (pss.getD 0 []) (getD_mem hpos)
    have HL := Lib.hid (show lenAt pss = valI (((pss.getD 0 []).drop 8).take 4) from rfl)
    have HBA := Lib.hid (hB _ (getD_mem hpos))
    generalize pss.getD 0 [] = p0 at *
    rw [Nat.add_zero] at hu
    have H64 := Lib.hid h64a
    obtain ⟨ua, uc, rfl, huc, hum⟩ := hus.shape
    rw [List.length_map, h64a] at huc hus hu
    obtain ⟨ub, uo, rfl, hltu, _⟩ := hus.addr (by rw [List.length_map, H64.out]; omega)
    have HUS := Lib.hid hus
    clear hus
    have HVL := Lib.hid (svalue_any _ ((p0.drop 8).take 4) w (by rw [List.length_take]; omega) ((HBA.out.drop 8).take 4) (HUS.out.part 8 4 (uc - 8) (by rw [H64.out]; omega) (by omega) (by unfold maxLen; omega)))
    rw [← HL.out, hN] at HVL
    go_enter Tryd.func39, Tryd.ntmps39
    go_wp2_with fail
    refine HVL.out.mono ?_
    rintro e w1 ⟨rfl, rfl⟩
    by_cases hN1 : N < 1
    · have hN1I : ((N : Int) < 1) := by omega
      have HNO := Lib.hid (show ¬ nextFit pss from fun q => by have := q.1; omega)
      clear hN
      go_wp2
      refine bodyPost_ret (results_tmp3 rfl _ _ _) rfl ?_
      exact ⟨_, _, _, _, _, rfl, ⟨fun e => (by cases e), fun _ => nextI_no HNO.out⟩, Below.refl _ _⟩
    · have hN1I : ¬ ((N : Int) < 1) := by omega
      by_cases hN2 : 4000 < N
      · have hN2I : ((4000 : Int) < N) := by omega
        have HNO := Lib.hid (show ¬ nextFit pss from fun q => by have := q.2.1; omega)
        clear hN
        go_wp2
        refine bodyPost_ret (results_tmp3 rfl _ _ _) rfl ?_
        exact ⟨_, _, _, _, _, rfl, ⟨fun e => (by cases e), fun _ => nextI_no HNO.out⟩, Below.refl _ _⟩
      · have hN2I : ¬ ((4000 : Int) < N) := by omega
        by_cases hN3 : (12 + (N : Int) - 1) / 64 + 1 < (pss.length : Int)
        · have hfit : (1 ≤ (N : Int) ∧ (N : Int) ≤ 4000) ∧ (12 + (N : Int) - 1) / 64 + 1 < (pss.length : Int) := ⟨⟨by omega, by omega⟩, hN3⟩
          obtain ⟨K, hK⟩ : ∃ K : Nat, (12 + (N : Int) - 1) / 64 + 1 = K := ⟨((12 + (N : Int) - 1) / 64 + 1).toNat, by omega⟩
          have HK := Lib.hid (show secsOf (lenAt pss) = K from by rw [hN]; unfold secsOf; omega)
          have HFIT := Lib.hid (show nextFit pss from ⟨by rw [hN]; omega, by rw [hN]; omega, by rw [HK.out]; omega⟩)
          have HNL := Lib.hid hN
          clear hN
          have hKl : K < pss.length := by omega
          have hKN : 12 + N ≤ 64 * K := by omega
          have hfl : (pss.take K).flatten.length = 64 * K := by rw [flat64_len (fun p hp => h64 p (List.mem_of_mem_take hp)), List.length_take]; omega
          have HCC := Lib.hid (concat_any _ _ w (by rw [hfl]; omega) (HH.out.take K (by omega)))
          have HFL := Lib.hid hfl
          have HBO := Lib.hid (show ((pss.take K).flatten.drop 12).take N = bodyI pss from by unfold bodyI; rw [HK.out, HNL.out]; rfl)
          have HBL := Lib.hid (show (bodyI pss).length = N from by rw [bodyI_len h64 HFIT.out, HNL.out]; rfl)
          have HBB := Lib.hid (bodyI_isB hB)
          have HLF := Lib.hid (laid_fit num h64 HFIT.out)
          have HLI := Lib.hid (laidI_isB num HBB.out)
          have HTAB := Lib.hid ht
          have HLH := Lib.hid hB
          have HKN := Lib.hid hKN
          clear hfl h64 hB ht hKN hN3 hN1 hN2
          generalize (pss.take K).flatten = F at *
          generalize hbod : bodyI pss = BD at *
          have HBOD := Lib.hid hbod
          clear hbod
          go_upto_region 7 with (fail)
          go_wp2_with fail
          refine HCC.out.mono ?_
          rintro e w2 ⟨x, rfl, hx, hb2⟩
          have hx : OB w2 w.heap.size x F := hx
          have hT := TB.ofOB hx (by rw [HFL.out]; have := HKN.out; omega)
          obtain ⟨g, o, c, rfl, hc1, hc2, _⟩ := id hT
          rw [HFL.out] at hT hc1 ⊢
          have hcI : 12 + N ≤ c := by have := HKN.out; omega
          have hP := hT.part 12 N (c - 12) (by rw [HFL.out]; exact HKN.out) (by omega) (by omega)
          rw [HBO.out] at hP
          unfold maxLen at hc2
          have HP := Lib.hid hP
          have HB2 := Lib.hid hb2
          have HLD := Lib.hid (laid_any num _ BD w2 hn0 hn1 (by rw [HBL.out]; omega) HBB.out (HTAB.out.below hb2) hP.sl)
          clear hx hT hP hb2 HCC
          go_wp2_with fail
          refine HLD.out.mono ?_
          rintro e w3 ⟨x3, rfl, hx3, hb3⟩
          obtain ⟨la, lc, rfl⟩ := hx3.val
          have HB3 := Lib.hid (below_trans2 HB2.out hb3)
          have HP3 := Lib.hid (HP.out.below hb3)
          have hL2 := HLF.out.2
          have HEQ := Lib.hid (equalFunc_any _ _ (laidI num BD) (pss.take (laidI num BD).length) w3 hx3.sls ((HH.out.below HB3.out (Nat.le_refl _)).take _ hL2) HLI.out (fun p hp => HLH.out p (List.mem_of_mem_take hp)))
          have HOK := Lib.hid (show nextOk pss num = decide (laidI num BD = pss.take (laidI num BD).length) from by
            unfold nextOk
            rw [HBOD.out]
            by_cases q : laidI num BD = pss.take (laidI num BD).length
            · rw [decide_eq_true ⟨HFIT.out, q⟩, decide_eq_true q]
            · rw [decide_eq_false (fun h => q h.2), decide_eq_false q])
          have HNX := Lib.hid (show nextOk pss num = true → nextI pss num = some (BD, (laidI num BD).length) from fun q => by unfold nextI; rw [if_pos q, HBOD.out])
          have HNN := Lib.hid (show nextOk pss num = false → nextI pss num = none from fun q => by unfold nextI; rw [q]; rfl)
          generalize (laidI num BD).length = L at *
          clear hx3 hb3 HLD HB2 HP HLF
          go_wp2_with fail
          refine HEQ.out.mono ?_
          rintro e w4 ⟨rfl, rfl⟩
          rw [← HOK.out]
          generalize nextOk pss num = ok at *
          have h12 : 12 + N - 12 = N := by omega
          go_wp2
          refine bodyPost_ret (results_tmp3 rfl _ _ _) rfl ?_
          refine ⟨_, _, _, _, _, rfl, ⟨fun q => ⟨L, rfl, (by rw [HBOD.out]; exact HNX.out q), ?_⟩, HNN.out⟩, HB3.out⟩
          rw [HBOD.out]
          exact HP3.out
        · have hno : ((N : Int) < 1 ∨ (4000 : Int) < N) ∨ (pss.length : Int) ≤ (12 + (N : Int) - 1) / 64 + 1 := Or.inr (by omega)
          have HNO := Lib.hid (show ¬ nextFit pss from fun q => by have := q.2.2; rw [hN] at this; unfold secsOf at this; omega)
          clear hN hN3
          go_wp2
          refine bodyPost_ret (results_tmp3 rfl _ _ _) rfl ?_
          exact ⟨_, _, _, _, _, rfl, ⟨fun e => (by cases e), fun _ => nextI_no HNO.out⟩, Below.refl _ _⟩

end Go.Proofs.YtgfkejecigefbaaDoor

namespace Go.Proofs.YtgfkejecigefbaaDoor
open Go.RowKit
set_option linter.unusedVariables false

/-- A sector's bytes as a slice. -/
theorem SecAt.sl {w : World} {b i : Nat} {s : Sec} (h : SecAt w b i s) (hb : b < w.heap.size) (hl : s.now.length = 64) : Sl w (.slice (some ⟨b, i * 129, none⟩) 64 64) (s.now.map (Value.int .u8)) :=
  ⟨some ⟨b, i * 129, none⟩, 64, by rw [List.length_map, hl], by rw [List.length_map, hl]; exact Nat.le_refl _, by unfold maxLen; omega, fun _ => ⟨b, i * 129, rfl, hb, fun j u hu => h.now j u hu⟩⟩

def DSt.rdE (d : DSt) (i : Int) : Int := if d.has i = true then (if d.dead = true then 70 else 0) else 1
def DSt.rd (d : DSt) (i : Int) : List Int := if d.rdE i = 0 then (d.l.map Sec.now).getD i.toNat [] else []


set_option maxRecDepth 100000 in
set_option maxHeartbeats 1000000 in
theorem dimage_any (w : World) (g b : Nat) (d : DSt) (h : Dev w g b d) :
    Calls Tryd.prog 27 #[.pointer (some ⟨g, 0, none⟩)] w fun e w' => ∃ x, e = .returned x ∧ OBs w' w.heap.size x (d.l.map Sec.now) ∧ Below w.heap.size w w' := by
  have HN := Lib.hid (dnone_any w g b d h)
  have HD := Lib.hid h
  obtain ⟨cap, h1, h2, k⟩ := h.blk
  have c0 : w.cell? ⟨g, 0, none⟩ = some (.slice (some ⟨b, 0, none⟩) d.l.length cap) := k.cell 0
  have hp := h.pos
  clear h k
  go_enter Tryd.func27, Tryd.ntmps27
  go_wp2_with fail
  refine HN.out.mono ?_
  rintro e w1 ⟨rfl, rfl⟩
  go_wp2
  go_loopw [3, 12] (fun l i wr => ∃ (k : Nat) (v : Value), v = l ∧ k ≤ d.l.length ∧ i = .int .i64 k ∧ OBs wr w.heap.size v ((d.l.map Sec.now).take k) ∧ Below w.heap.size w wr) (fun _ i _ => d.l.length - (intOf i).toNat)
  case atStart => exact ⟨0, _, rfl, by omega, rfl, OBs.nil _ _, Below.refl _ _⟩
  case round =>
    clear c0
    obtain ⟨k, v, rfl, hk, rfl, hO, hb⟩ := hrel
    have hDr := HD.out.below hb
    obtain ⟨cap, h1, h2, kk⟩ := hDr.blk
    have c0 : wr.cell? ⟨g, 0, none⟩ = some (.slice (some ⟨b, 0, none⟩) d.l.length cap) := kk.cell 0
    obtain ⟨va, vc, rfl⟩ := hO.val
    have hlk : ((d.l.map Sec.now).take k).length = k := by rw [List.length_take, List.length_map]; omega
    rw [hlk] at hO ⊢
    by_cases hlt : k < d.l.length
    · have hkI : (k : Int) < (d.l.length : Int) := by omega
      have hg : d.l[k]? = some d.l[k] := List.getElem?_eq_getElem hlt
      have hS := hDr.row.at_ k _ hg
      have hL := (hDr.row.len _ (List.mem_of_getElem? hg)).1
      have HC := Lib.hid (sclone_own _ _ wr (by rw [hL]; omega) (hS.sl hDr.row.lt hL))
      have HT := Lib.hid (show (d.l.map Sec.now).take (k + 1) = (d.l.map Sec.now).take k ++ [d.l[k].now] from by rw [List.take_succ_eq_append_getElem (by rw [List.length_map]; exact hlt), List.getElem_map])
      have HLN := Lib.hid (show ((d.l.map Sec.now).take k).length + 1 ≤ 5000000000000 by rw [hlk]; omega)
      generalize d.l[k] = s at *
      clear hDr kk hg hS hL hlk
      go_wp2_with fail
      refine HC.out.mono ?_
      rintro e w2 ⟨x, rfl, hx, hb2⟩
      obtain ⟨xa, xn, xc, rfl⟩ := hx.sl.val
      have hO2 := hO.below hb2
      have hbw := hb.trans (hb2.mono hb.size)
      have hbA : Below w2.heap.size w2 (w2.alloc (.cells #[.slice xa xn xc] 26)) := (Below.refl _ _).alloc (Nat.le_refl _) _
      have hO3 := hO2.below hbA
      have hx3 := (hx.below hbA).base hb.size
      have hc3 := (Blk.new w2 26 #[.slice xa xn xc]).cell 0
      have hbA2 := hbw.trans (hbA.mono hbw.size)
      clear hx hO hO2 hb2 hbA hbw
      go_wp2_with (at_builtin; refine wpList_append_ob rfl _ _ rfl w.heap.size _ _ rfl hO3 w2.heap.size 1 rfl (.slice xa xn xc) hc3 _ hx3 HLN.out hbA2.size ?_)
      intro v5 w5 hO5 hb5 hg5
      have hb6 := hbA2.trans hb5
      rw [← HT.out] at hO5
      clear hb5 hg5 hO3 hx3 hc3 hbA2 hb
      go_wp2
      go_roundw
      case rel => exact ⟨k + 1, v5, rfl, by omega, by go_num, hO5, hb6⟩
      case measure => simp [intOf]; omega
    · obtain rfl : k = d.l.length := by omega
      have hkI : ¬ (d.l.length : Int) < (d.l.length : Int) := by omega
      have HO := Lib.hid (show OBs wr w.heap.size (.slice va d.l.length vc) (d.l.map Sec.now) from by rw [List.take_of_length_le (by rw [List.length_map]; exact Nat.le_refl _)] at hO; exact hO)
      clear hO hDr kk hlk
      go_wp2
      go_ret
      exact ⟨_, rfl, HO.out, hb⟩

end Go.Proofs.YtgfkejecigefbaaDoor

namespace Go.Proofs.YtgfkejecigefbaaDoor
open Go.RowKit
set_option linter.unusedVariables false

/-- A slice of texts in blocks of bytes, in a block of slices. -/
def TBr (w : World) (v : Value) (pss : List (List Int)) : Prop :=
  ∃ b o c us, v = .slice (some ⟨b, o, none⟩) pss.length c ∧ pss.length ≤ c ∧ c ≤ maxLen ∧ (∃ cur, Blk w b 26 cur) ∧ (∀ j u, us[j]? = some u → w.cell? ⟨b, o + j, none⟩ = some u) ∧ TBAll w 0 us pss
theorem TBr.only {ds : List Nat} {w w' : World} {v : Value} {pss : List (List Int)} (h : TBr w v pss) (ho : Only ds w w') (hd : ∀ g ∈ ds, ∀ cur, ¬ Blk w g 5 cur ∧ ¬ Blk w g 26 cur) : TBr w' v pss := by
  obtain ⟨b, o, c, us, rfl, h1, h2, ⟨cur, k⟩, h4, h5⟩ := h
  have hn : b ∉ ds := fun hm => (hd b hm cur).2 k
  exact ⟨b, o, c, us, rfl, h1, h2, ⟨cur, ho.blk k hn⟩, fun j u hu => (ho.cell (p := ⟨b, o + j, none⟩) k.lt hn).trans (h4 j u hu), h5.mono fun u p q => q.only ho fun g hg cur => (hd g hg cur).1⟩
theorem TBr.below {w w' : World} {v : Value} {pss : List (List Int)} (h : TBr w v pss) (hb : Below w.heap.size w w') : TBr w' v pss := h.only (Only.of_below [] hb) (by simp)
theorem TBAll.at {w : World} {base : Nat} : ∀ {us : List Value} {ps : List (List Int)}, TBAll w base us ps → ∀ (i : Nat) (u : Value) (p : List Int), us[i]? = some u → ps[i]? = some p → TB w base u p
  | [], [], _, i, u, p, hu, _ => by simp at hu
  | [], _ :: _, h, _, _, _, _, _ => h.elim
  | _ :: _, [], h, _, _, _, _, _ => h.elim
  | _ :: _, _ :: _, h, 0, u, p, hu, hp => by simp at hu hp; subst hu hp; exact h.1
  | _ :: _, _ :: _, h, i + 1, u, p, hu, hp => by simp at hu hp; exact TBAll.at h.2 i u p hu hp
theorem TBr.at {w : World} {b o n c : Nat} {pss : List (List Int)} (h : TBr w (.slice (some ⟨b, o, none⟩) n c) pss) {k : Nat} {p : List Int} (hk : pss[k]? = some p) : ∃ u, w.cell? ⟨b, o + k, none⟩ = some u ∧ TB w 0 u p := by
  obtain ⟨b, o, c, us, e, h1, h2, _, h4, h5⟩ := h
  cases e
  have hl : k < us.length := by rw [h5.len]; exact (List.getElem?_eq_some_iff.1 hk).1
  exact ⟨us[k], h4 k _ (List.getElem?_eq_getElem hl), h5.at k _ _ (List.getElem?_eq_getElem hl) hk⟩
theorem TBs.tbr {w : World} {base : Nat} {v : Value} {pss : List (List Int)} (h : TBs w base v pss) (hp : 0 < pss.length) : TBr w v pss := by
  have hb := fun g (hg : v.ownBlock = some g) => h.blk hg
  obtain ⟨vs, h1, h2⟩ := h
  have hsl := Sl.of_owns h1
  obtain ⟨g, cap, rfl, _, hlt⟩ := h1.form hp
  obtain ⟨a', c', e, q1, q2, q3⟩ := hsl
  rw [h2.len] at e q1 q3
  cases e
  obtain ⟨b, off, e, _, hc⟩ := q3 hp
  cases e
  exact ⟨_, _, _, vs, rfl, q1, q2, hb _ rfl, hc, h2.mono fun u p q => q.base (Nat.zero_le _)⟩
theorem TBAll.take {w : World} {base : Nat} : ∀ {us : List Value} {ps : List (List Int)} (k : Nat), TBAll w base us ps → TBAll w base (us.take k) (ps.take k)
  | [], [], k, _ => by simp [TBAll]
  | [], _ :: _, _, h => h.elim
  | _ :: _, [], _, h => h.elim
  | _ :: _, _ :: _, 0, _ => by simp [TBAll]
  | _ :: _, _ :: _, k + 1, h => ⟨h.1, TBAll.take k h.2⟩
theorem TBr.take {w : World} {b o n c : Nat} {pss : List (List Int)} (h : TBr w (.slice (some ⟨b, o, none⟩) n c) pss) (k : Nat) (hk : k ≤ pss.length) : TBr w (.slice (some ⟨b, o, none⟩) k c) (pss.take k) := by
  obtain ⟨b, o, c, us, e, h1, h2, h3, h4, h5⟩ := h
  cases e
  have hl : (pss.take k).length = k := by rw [List.length_take]; omega
  refine ⟨b, o, c, us.take k, by rw [hl], by rw [hl]; omega, h2, h3, fun j u hu => h4 j u ?_, h5.take k⟩
  rw [List.getElem?_take] at hu
  split at hu
  · exact hu
  · cases hu
theorem TB.off {w : World} {base : Nat} {u : Value} {p : List Int} (h : TB w base u p) {g b : Nat} {d : DSt} (hd : Dev w g b d) : ∀ o n c, 0 < n → u ≠ .slice (some ⟨b, o, none⟩) n c := by
  intro o n c _ e
  obtain ⟨b', o', c', rfl, _, _, _, ⟨cur, k⟩, _⟩ := h
  obtain ⟨cur2, k2⟩ := hd.row.typ
  cases e
  exact Blk.ne_ k k2 (by decide) rfl
theorem Dev.noText {w : World} {g b : Nat} {d : DSt} (h : Dev w g b d) : ∀ k ∈ [g, b], ∀ cur, ¬ Blk w k 5 cur ∧ ¬ Blk w k 26 cur := by
  obtain ⟨cap, _, _, k1⟩ := h.blk
  obtain ⟨c2, k2⟩ := h.row.typ
  intro k hk cur
  simp only [List.mem_cons, List.not_mem_nil, or_false] at hk
  rcases hk with rfl | rfl
  · exact ⟨fun e => Blk.ne_ e k1 (by decide) rfl, fun e => Blk.ne_ e k1 (by decide) rfl⟩
  · exact ⟨fun e => Blk.ne_ e k2 (by decide) rfl, fun e => Blk.ne_ e k2 (by decide) rfl⟩

/-- A log at q on the device at g (its sectors at b), its records' row v. -/
structure Lg (w : World) (q g b B : Nat) (v : Value) (s : LSt) (d : DSt) : Prop where
  blk : Blk w q 36 #[.pointer (some ⟨g, 0, none⟩), .int .i64 s.secs, .int .i64 s.fin, v, .bool s.stop]
  row : TBs w B v s.l
  dev : Dev w g b d
  secs : s.secs = d.l.length
  fin : s.fin ≤ s.secs
  cnt : s.l.length ≤ s.fin
  isB : ∀ p ∈ s.l, IsB p
  short : ∀ p ∈ s.l, 1 ≤ p.length ∧ p.length ≤ 4000
  base : B ≤ w.heap.size

theorem Lg.val {w : World} {q g b B : Nat} {v : Value} {s : LSt} {d : DSt} (h : Lg w q g b B v s d) : ∃ a c, v = .slice a s.l.length c := h.row.val
theorem Lg.apart {w : World} {q g b B : Nat} {v : Value} {s : LSt} {d : DSt} (h : Lg w q g b B v s d) : q ≠ g ∧ q ≠ b := by
  obtain ⟨cap, _, _, k1⟩ := h.dev.blk
  obtain ⟨c2, k2⟩ := h.dev.row.typ
  exact ⟨Blk.ne_ h.blk k1 (by decide), Blk.ne_ h.blk k2 (by decide)⟩
theorem Lg.only {w w' : World} {q g b B : Nat} {v : Value} {s : LSt} {d : DSt} {ds : List Nat} (h : Lg w q g b B v s d) (ho : Only ds w w') (hd : ∀ k ∈ ds, ∀ cur, ¬ Blk w k 5 cur) (hv : ∀ k, v.ownBlock = some k → k ∉ ds) (hq : q ∉ ds) (hg : g ∉ ds) (hb : b ∉ ds) : Lg w' q g b B v s d :=
  ⟨ho.blk h.blk hq, h.row.only ho hd hv, h.dev.only ho hg hb, h.secs, h.fin, h.cnt, h.isB, h.short, Nat.le_trans h.base ho.size⟩
theorem Lg.below {w w' : World} {q g b B : Nat} {v : Value} {s : LSt} {d : DSt} (h : Lg w q g b B v s d) (hb : Below w.heap.size w w') : Lg w' q g b B v s d := h.only (Only.of_below [] hb) (by simp) (by simp) (by simp) (by simp) (by simp)
/-- Only the device has turned. -/
theorem Lg.devOnly {w w' : World} {q g b B : Nat} {v : Value} {s : LSt} {d d' : DSt} (h : Lg w q g b B v s d) (ho : Only [g, b] w w') (hd : Dev w' g b d') (hl : d'.l.length = d.l.length) : Lg w' q g b B v s d' := by
  have hn := h.dev.noText
  refine ⟨ho.blk h.blk (by simp; exact h.apart), h.row.only ho (fun k hk cur => (hn k hk cur).1) (fun k hk hm => ?_), hd, h.secs.trans hl.symm, h.fin, h.cnt, h.isB, h.short, Nat.le_trans h.base ho.size⟩
  obtain ⟨cur, kk⟩ := h.row.blk hk
  exact (hn k hm cur).2 kk

theorem wrote_len (d : DSt) (i : Int) (bs : List Int) : (d.wrote i bs).l.length = d.l.length := by
  unfold DSt.wrote
  split
  · split
    · rw [chg_l]
    · simp
  · rfl
theorem synced_len (d : DSt) : d.synced.l.length = d.l.length := by
  unfold DSt.synced
  split
  · rw [chg_l]
  · simp
theorem putW_len : ∀ (ss : List (List Int)) (i : Nat) (d : DSt), (putW ss i d).1.l.length = d.l.length
  | [], i, d => synced_len d
  | s :: r, i, d => by
    rw [putW]
    split
    · rw [putW_len r, wrote_len]
    · exact wrote_len d _ _

set_option maxRecDepth 100000 in
set_option maxHeartbeats 1000000 in
theorem put_any (w : World) (q g b : Nat) (d : DSt) (at_ : Nat) (v : Value) (ss : List (List Int)) (hq : w.cell? ⟨q, 0, none⟩ = some (.pointer (some ⟨g, 0, none⟩))) (hql : q < w.heap.size) (hqg : q ≠ g ∧ q ≠ b) (h : Dev w g b d) (hv : TBr w v ss) (hB : ∀ p ∈ ss, IsB p) (hl : at_ + ss.length ≤ 1000000) :
    Calls Tryd.prog 36 #[.pointer (some ⟨q, 0, none⟩), .int .i64 at_, v] w fun e w' => e = .returned (.int .i64 (putW ss at_ d).2) ∧ Dev w' g b (putW ss at_ d).1 ∧ Only [g, b] w w' := by
  have HV := Lib.hid hv
  obtain ⟨vb, vo, vc, us, rfl, hvc, hvm, _⟩ := hv
  unfold maxLen at hvm
  have HQ := Lib.hid hq
  have HQG := Lib.hid hqg
  have HD := Lib.hid h
  have HBB := Lib.hid hB
  have HN := Lib.hid h.noText
  have hl1 : at_ ≤ 1000000 := by omega
  have hl2 : ss.length ≤ 1000000 := by omega
  clear h hB hq hqg hl
  go_enter Tryd.func36, Tryd.ntmps36
  go_wp2
  go_loopw [12] (fun i wr => ∃ (k : Nat) (d' : DSt), k ≤ ss.length ∧ i = .int .i64 k ∧ Hid (putW ss at_ d = putW (ss.drop k) (at_ + k) d') ∧ Hid (Dev wr g b d') ∧ Hid (Only [g, b] w wr)) (fun i _ => ss.length - (intOf i).toNat)
  case atStart => exact ⟨0, d, by omega, rfl, Lib.hid rfl, HD, Lib.hid (Only.refl _ _)⟩
  case round =>
    obtain ⟨k, d', hk, rfl, hp, hD, hO⟩ := hrel
    have c0 : wr.cell? ⟨q, 0, none⟩ = some (.pointer (some ⟨g, 0, none⟩)) := (hO.out.cell (p := ⟨q, 0, none⟩) hql (by simp; exact HQG.out)).trans HQ.out
    by_cases hlt : k < ss.length
    · have hkI : (k : Int) < (ss.length : Int) := by omega
      have hVr := HV.out.only hO.out HN.out
      obtain ⟨u, cu, hu⟩ := hVr.at (List.getElem?_eq_getElem hlt)
      have HBk := Lib.hid (HBB.out _ (List.getElem_mem hlt))
      have HDR := Lib.hid (show ss.drop k = ss[k] :: ss.drop (k + 1) from List.drop_eq_getElem_cons hlt)
      have HW := Lib.hid (dwrite_any wr g b d' ((at_ + k : Nat) : Int) u ss[k] hD.out HBk.out hu.sl (hu.off hD.out))
      have hcast : ((at_ + k : Nat) : Int) = (at_ : Int) + (k : Int) := by omega
      rw [hcast] at HW
      have HCA := Lib.hid hcast
      clear hcast
      generalize ss[k] = sk at *
      obtain ⟨ua, un, uc, rfl⟩ := hu.sl.val
      clear hu hVr
      go_wp2_with fail
      refine HW.out.mono ?_
      rintro e w2 ⟨rfl, hD2, hO2⟩
      have HO2 := Lib.hid (hO.out.trans hO2)
      have HD2 := Lib.hid hD2
      rw [← HCA.out] at *
      by_cases he : d'.wrE ((at_ + k : Nat) : Int) sk = 0
      · have HP := Lib.hid (show putW ss at_ d = putW (ss.drop (k + 1)) (at_ + (k + 1)) (d'.wrote ((at_ + k : Nat) : Int) sk) from by
          rw [hp.out, HDR.out, putW, if_pos he]; rfl)
        clear hp hD2 hO2 HW
        rw [he]
        go_wp2
        go_roundw
        case rel => exact ⟨k + 1, _, hlt, by go_num, HP, HD2, HO2⟩
        case measure => simp [intOf]; omega
      · have heb : (d'.wrE ((at_ + k : Nat) : Int) sk == 0) = false := by rw [beq_eq_false_iff_ne]; exact he
        have HP := Lib.hid (show putW ss at_ d = (d'.wrote ((at_ + k : Nat) : Int) sk, d'.wrE ((at_ + k : Nat) : Int) sk) from by
          rw [hp.out, HDR.out, putW, if_neg he])
        clear hp hD2 hO2 HW
        generalize d'.wrE ((at_ + k : Nat) : Int) sk = er at *
        go_wp2
        go_ret
        exact ⟨by rw [HP.out]; rfl, by rw [HP.out]; exact HD2.out, HO2.out⟩
    · obtain rfl : k = ss.length := by omega
      have hkI : ¬ (ss.length : Int) < (ss.length : Int) := by omega
      have HS := Lib.hid (dsync_any wr g b d' hD.out)
      have HP := Lib.hid (show putW ss at_ d = (d'.synced, d'.chgE) from by rw [hp.out, List.drop_length]; rfl)
      clear hp
      go_wp2_with fail
      refine HS.out.mono ?_
      rintro e w2 ⟨rfl, hD2, hO2⟩
      have HD2 := Lib.hid hD2
      have HO2 := Lib.hid (hO.out.trans hO2)
      clear hD2 hO2 HS
      go_wp2
      go_ret
      exact ⟨by rw [HP.out]; rfl, by rw [HP.out]; exact HD2.out, HO2.out⟩

end Go.Proofs.YtgfkejecigefbaaDoor

namespace Go.Proofs.YtgfkejecigefbaaDoor
open Go.RowKit
set_option linter.unusedVariables false

theorem zer64_sl (w : World) : Sl (w.alloc (.cells zer64 5)) (.slice (some ⟨w.heap.size, 0, none⟩) 64 64) (zS.map (Value.int .u8)) := by
  have h := Sl.lit w zer64 5 (by simp [maxLen, zer64])
  have e : zer64.toList = zS.map (Value.int .u8) := by simp [zer64, zS]
  have es : zer64.size = 64 := by simp [zer64]
  rw [e, es] at h
  exact h
theorem wipeD_len : ∀ (ss : List (List Int)) (i : Nat) (x : Bool) (d : DSt), (wipeD ss i x d).1.l.length = d.l.length
  | [], i, x, d => by
    rw [wipeD]; split
    · exact synced_len d
    · rfl
  | s :: r, i, x, d => by
    rw [wipeD]
    split
    · exact wipeD_len r _ _ _
    · split
      · rw [wipeD_len r, wrote_len]
      · exact wrote_len d _ _

set_option maxRecDepth 100000 in
set_option maxHeartbeats 2000000 in
theorem wipe_any (w : World) (q g b B : Nat) (v : Value) (s : LSt) (d : DSt) (vi : Value) (img : List (List Int)) (h : Lg w q g b B v s d) (hi : TBr w vi img) (hlen : img.length = s.secs) (h64 : ∀ p ∈ img, p.length = 64) :
    Calls Tryd.prog 40 #[.pointer (some ⟨q, 0, none⟩), vi] w fun e w' => e = .returned (.int .i64 (wipeD (img.drop s.fin) s.fin false d).2) ∧ Dev w' g b (wipeD (img.drop s.fin) s.fin false d).1 ∧ Only [g, b] w w' := by
  have HV := Lib.hid hi
  obtain ⟨vb, vo, vc, us, rfl, hvc, hvm, _⟩ := hi
  unfold maxLen at hvm
  have HL := Lib.hid h
  have HA := Lib.hid h.apart
  have HN := Lib.hid h.dev.noText
  have HK := Lib.hid h.blk
  have c1 : w.cell? ⟨q, 1, none⟩ = some (.int .i64 s.secs) := h.blk.cell 1
  have c2 : w.cell? ⟨q, 2, none⟩ = some (.int .i64 s.fin) := h.blk.cell 2
  have hsec : s.secs ≤ 16384 := by have := h.dev.pos.2; have := h.secs; omega
  have hfin := h.fin
  have H6 := Lib.hid h64
  have HD := Lib.hid h.dev
  have hql := h.blk.lt
  obtain ⟨S, hS⟩ : ∃ S, s.secs = S := ⟨_, rfl⟩
  obtain ⟨F, hF⟩ : ∃ F, s.fin = F := ⟨_, rfl⟩
  rw [hS] at c1 hsec hfin hlen
  rw [hF] at c2 hfin ⊢
  have HKC := Lib.hid (show ∀ wr : World, Only [g, b] w wr → wr.cell? ⟨q, 0, none⟩ = some (.pointer (some ⟨g, 0, none⟩)) ∧ wr.cell? ⟨q, 1, none⟩ = some (.int .i64 S) from fun wr ho => by
    have k := ho.blk HK.out (by simp; exact HA.out)
    exact ⟨k.cell 0, by rw [k.cell 1, ← hS]; rfl⟩)
  have HLN := Lib.hid hlen
  clear h h64 hS hF hlen
  go_enter Tryd.func40, Tryd.ntmps40
  go_wp2
  go_loopw [5, 6] (fun x i wr => ∃ (k : Nat) (wr0 : Bool) (d' : DSt), F ≤ k ∧ k ≤ S ∧ i = .int .i64 k ∧ x = .bool wr0 ∧ Hid (wipeD (img.drop F) F false d = wipeD (img.drop k) k wr0 d') ∧ Hid (Dev wr g b d') ∧ Hid (Only [g, b] w wr)) (fun _ i _ => S - (intOf i).toNat)
  case atStart => exact ⟨F, false, d, by omega, hfin, rfl, rfl, Lib.hid rfl, HD, Lib.hid (Only.refl _ _)⟩
  case round =>
    obtain ⟨k, wr0, d', hFk, hk, rfl, rfl, hp, hD, hO⟩ := hrel
    obtain ⟨c0, c1⟩ := HKC.out wr hO.out
    by_cases hlt : k < S
    · have hkI : (k : Int) < (S : Int) := by omega
      have hVr := HV.out.only hO.out HN.out
      have hki : k < img.length := by have := HLN.out; omega
      have hkiI : (k : Int) < (img.length : Int) := by omega
      obtain ⟨u, cu, hu⟩ := hVr.at (List.getElem?_eq_getElem hki)
      have HDR := Lib.hid (show img.drop k = img[k] :: img.drop (k + 1) from List.drop_eq_getElem_cons hki)
      have HB := Lib.hid (sblank_any u img[k] wr (H6.out _ (List.getElem_mem hki)) hu.sl)
      generalize img[k] = sk at *
      obtain ⟨ua, un, uc, rfl⟩ := hu.sl.val
      clear hu hVr
      go_wp2_with fail
      refine HB.out.mono ?_
      rintro e w2 ⟨rfl, nq, rfl⟩
      have hD2 : Dev (wr.drewN nq) g b d' := hD.out.below (below_drewN0 (Below.refl _ _) nq)
      have hO2 : Only [g, b] w (wr.drewN nq) := hO.out.trans (Only.of_below _ (below_drewN0 (Below.refl _ _) nq))
      have HD2 := Lib.hid hD2
      have HO2 := Lib.hid hO2
      clear hD hO hD2 hO2 cu c0 c1
      generalize wr.drewN nq = wz at *
      obtain ⟨c0, c1⟩ := HKC.out wz HO2.out
      by_cases hbl : sk = zS
      · rw [show blankI sk = true from decide_eq_true hbl]
        have HP := Lib.hid (show wipeD (img.drop F) F false d = wipeD (img.drop (k + 1)) (k + 1) wr0 d' from by rw [hp.out, HDR.out, wipeD, if_pos hbl])
        clear hp hbl HB
        go_wp2
        go_roundw
        case rel => exact ⟨k + 1, wr0, d', by omega, hlt, by go_num, rfl, HP, HD2, HO2⟩
        case measure => simp [intOf]; omega
      · rw [show blankI sk = false from decide_eq_false hbl]
        have hbA : Below wz.heap.size wz (wz.alloc (.cells zer64 5)) := (Below.refl _ _).alloc (Nat.le_refl _) _
        have HW := Lib.hid (fun w' (hb : Below (wz.alloc (.cells zer64 5)).heap.size (wz.alloc (.cells zer64 5)) w') => dwrite_any w' g b d' (k : Int) (.slice (some ⟨wz.heap.size, 0, none⟩) 64 64) zS ((HD2.out.below hbA).below hb) zS_isB ((zer64_sl wz).below hb (Nat.le_refl _)) (fun o n c _ e => by
          have := HD2.out.row.lt
          injection e with e1 e2 e3
          injection e1 with e1
          injection e1 with e1
          omega))
        have HGB := Lib.hid (fun w' (hb : Below wz.heap.size wz w') => (hb.cell (p := ⟨q, 0, none⟩) (Nat.lt_of_lt_of_le hql HO2.out.size)).trans c0)
        have hmk := run_make64
        have HO4 := Lib.hid (fun (wA : World) (hb : Below wz.heap.size wz wA) (w3 : World) (h : Only [g, b] wA w3) => HO2.out.trans ((Only.of_below [g, b] hb).trans h))
        clear hbA c1
        go_upto_region 7 with (fail)
        go_region_held3 (fun w' => w'.cell? ⟨q, 0, none⟩ = some (.pointer (some ⟨g, 0, none⟩))) (first | exact hG3.out | exact HGB.out _ (by first | exact Below.refl _ _ | exact (Below.refl _ _).drew | exact (Below.refl _ _).alloc (Nat.le_refl _) _ | exact ((Below.refl _ _).alloc (Nat.le_refl _) _).drew | exact ((Below.refl _ _).drew).alloc (Nat.le_refl _) _)) (first | (go_at_call 62; refine (HW.out _ (by first | exact Below.refl _ _ | exact (Below.refl _ _).drew)).mono ?_; rintro e w3 ⟨rfl, hD3, hO3⟩; have hG3 := Lib.hid (HKC.out w3 (HO4.out _ (by first | exact Below.refl _ _ | exact (Below.refl _ _).drew | exact (Below.refl _ _).alloc (Nat.le_refl _) _ | exact ((Below.refl _ _).alloc (Nat.le_refl _) _).drew | exact ((Below.refl _ _).drew).alloc (Nat.le_refl _) _) w3 hO3)).1; have HD3 := Lib.hid hD3; have HO3 := Lib.hid (HO4.out _ (by first | exact Below.refl _ _ | exact (Below.refl _ _).drew | exact (Below.refl _ _).alloc (Nat.le_refl _) _ | exact ((Below.refl _ _).alloc (Nat.le_refl _) _).drew | exact ((Below.refl _ _).drew).alloc (Nat.le_refl _) _) w3 hO3); clear hD3 hO3))
        have HBL := Lib.hid hbl
        clear hbl
        by_cases he : d'.wrE (k : Int) zS = 0
        · have HP := Lib.hid (show wipeD (img.drop F) F false d = wipeD (img.drop (k + 1)) (k + 1) true (d'.wrote (k : Int) zS) from by rw [hp.out, HDR.out, wipeD, if_neg HBL.out, if_pos he])
          clear hp HW
          all_goals (rw [he])
          all_goals go_wp2
          all_goals go_roundw
          all_goals first
            | exact ⟨k + 1, true, _, by omega, hlt, by go_num, rfl, HP, HD3, HO3⟩
            | (simp [intOf]; omega)
        · have heb : (d'.wrE (k : Int) zS == 0) = false := by rw [beq_eq_false_iff_ne]; exact he
          have HP := Lib.hid (show wipeD (img.drop F) F false d = (d'.wrote (k : Int) zS, d'.wrE (k : Int) zS) from by rw [hp.out, HDR.out, wipeD, if_neg HBL.out, if_neg he])
          clear hp HW
          generalize d'.wrE (k : Int) zS = er at *
          all_goals go_wp2
          all_goals go_ret
          all_goals exact ⟨by rw [HP.out]; rfl, by rw [HP.out]; exact HD3.out, HO3.out⟩
    · obtain rfl : k = S := by omega
      have hkI : ¬ (k : Int) < (k : Int) := by omega
      have HP := Lib.hid (show wipeD (img.drop F) F false d = if wr0 = true then (d'.synced, d'.chgE) else (d', 0) from by rw [hp.out, List.drop_eq_nil_of_le (by have := HLN.out; omega)]; rfl)
      clear hp
      have HS := Lib.hid (dsync_any wr g b d' hD.out)
      cases wr0 with
      | true =>
        go_wp2_with fail
        refine HS.out.mono ?_
        rintro e w2 ⟨rfl, hD2, hO2⟩
        have HD2 := Lib.hid hD2
        have HO2 := Lib.hid (hO.out.trans hO2)
        clear hD2 hO2 HS
        go_wp2
        go_ret
        exact ⟨by rw [HP.out]; rfl, by rw [HP.out]; exact HD2.out, HO2.out⟩
      | false =>
        go_wp2
        go_ret
        exact ⟨by rw [HP.out]; rfl, by rw [HP.out]; exact hD.out, hO.out⟩

end Go.Proofs.YtgfkejecigefbaaDoor

namespace Go.Proofs.YtgfkejecigefbaaDoor
open Go.RowKit
set_option linter.unusedVariables false

theorem lnone_any (w : World) (q g : Nat) (c0 : w.cell? ⟨q, 0, none⟩ = some (.pointer (some ⟨g, 0, none⟩))) :
    Calls Tryd.prog 34 #[.pointer (some ⟨q, 0, none⟩)] w fun e w' => e = .returned (.bool false) ∧ w = w' := by
  go_enter Tryd.func34, Tryd.ntmps34
  go_wp2
  go_ret
  exact ⟨rfl, rfl⟩
/-- No log: nil, or one that no call made. -/
def NoLog (w : World) (a : Option Addr) : Prop := a = none ∨ ∃ g, a = some ⟨g, 0, none⟩ ∧ w.cell? ⟨g, 0, none⟩ = some (.pointer none)
theorem nlnone_any (w : World) (a : Option Addr) (h : NoLog w a) : Calls Tryd.prog 34 #[.pointer a] w fun e w' => e = .returned (.bool true) ∧ w = w' := by
  rcases h with rfl | ⟨g, rfl, c0⟩
  · go_enter Tryd.func34, Tryd.ntmps34
    go_wp2
    go_ret
    exact ⟨rfl, rfl⟩
  · go_enter Tryd.func34, Tryd.ntmps34
    go_wp2
    go_ret
    exact ⟨rfl, rfl⟩
theorem nllen_any (w : World) (a : Option Addr) (h : NoLog w a) : Calls Tryd.prog 14 #[.pointer a] w fun e w' => e = .returned (.int .i64 0) ∧ w = w' := by
  have HN := Lib.hid (nlnone_any w a h)
  clear h
  go_enter Tryd.func14, Tryd.ntmps14
  go_wp2_with fail
  refine HN.out.mono ?_
  rintro e w1 ⟨rfl, rfl⟩
  go_wp2
  go_ret
  exact ⟨rfl, rfl⟩
theorem nlroom_any (w : World) (a : Option Addr) (h : NoLog w a) : Calls Tryd.prog 13 #[.pointer a] w fun e w' => e = .returned (.int .i64 0) ∧ w = w' := by
  have HN := Lib.hid (nlnone_any w a h)
  clear h
  go_enter Tryd.func13, Tryd.ntmps13
  go_wp2_with fail
  refine HN.out.mono ?_
  rintro e w1 ⟨rfl, rfl⟩
  go_wp2
  go_ret
  exact ⟨rfl, rfl⟩
theorem nlrecords_any (w : World) (a : Option Addr) (h : NoLog w a) : Calls Tryd.prog 12 #[.pointer a] w fun e w' => e = .returned (.slice none 0 0) ∧ w = w' := by
  have HN := Lib.hid (nlnone_any w a h)
  clear h
  go_enter Tryd.func12, Tryd.ntmps12
  go_wp2_with fail
  refine HN.out.mono ?_
  rintro e w1 ⟨rfl, rfl⟩
  go_wp2
  go_ret
  exact ⟨rfl, rfl⟩
theorem nlstopped_any (w : World) (a : Option Addr) (h : NoLog w a) : Calls Tryd.prog 15 #[.pointer a] w fun e w' => e = .returned (.bool true) ∧ w = w' := by
  have HN := Lib.hid (nlnone_any w a h)
  clear h
  go_enter Tryd.func15, Tryd.ntmps15
  go_wp2_with fail
  refine HN.out.mono ?_
  rintro e w1 ⟨rfl, rfl⟩
  go_wp2
  go_ret
  exact ⟨rfl, rfl⟩
theorem nlappend_any (w : World) (a : Option Addr) (v : Value) (h : NoLog w a) : Calls Tryd.prog 11 #[.pointer a, v] w fun e w' => e = .returned (.int .i64 2) ∧ w = w' := by
  have HN := Lib.hid (nlnone_any w a h)
  clear h
  go_enter Tryd.func11, Tryd.ntmps11
  go_wp2_with fail
  refine HN.out.mono ?_
  rintro e w1 ⟨rfl, rfl⟩
  go_wp2
  go_ret
  exact ⟨rfl, rfl⟩

theorem llen_any (w : World) (q g b B : Nat) (v : Value) (s : LSt) (d : DSt) (h : Lg w q g b B v s d) : Calls Tryd.prog 14 #[.pointer (some ⟨q, 0, none⟩)] w fun e w' => e = .returned (.int .i64 s.l.length) ∧ w = w' := by
  have HN := Lib.hid (lnone_any w q g (h.blk.cell 0))
  obtain ⟨a, c, rfl⟩ := h.val
  have c3 : w.cell? ⟨q, 3, none⟩ = some (.slice a s.l.length c) := h.blk.cell 3
  clear h
  go_enter Tryd.func14, Tryd.ntmps14
  go_wp2_with fail
  refine HN.out.mono ?_
  rintro e w1 ⟨rfl, rfl⟩
  go_wp2
  go_ret
  exact ⟨rfl, rfl⟩
theorem lstopped_any (w : World) (q g b B : Nat) (v : Value) (s : LSt) (d : DSt) (h : Lg w q g b B v s d) : Calls Tryd.prog 15 #[.pointer (some ⟨q, 0, none⟩)] w fun e w' => e = .returned (.bool s.stop) ∧ w = w' := by
  have HN := Lib.hid (lnone_any w q g (h.blk.cell 0))
  have c4 : w.cell? ⟨q, 4, none⟩ = some (.bool s.stop) := h.blk.cell 4
  clear h
  go_enter Tryd.func15, Tryd.ntmps15
  go_wp2_with fail
  refine HN.out.mono ?_
  rintro e w1 ⟨rfl, rfl⟩
  go_wp2
  go_ret
  exact ⟨rfl, rfl⟩
set_option maxRecDepth 100000 in
set_option maxHeartbeats 1000000 in
theorem lroom_any (w : World) (q g b B : Nat) (v : Value) (s : LSt) (d : DSt) (h : Lg w q g b B v s d) : Calls Tryd.prog 13 #[.pointer (some ⟨q, 0, none⟩)] w fun e w' => e = .returned (.int .i64 (roomI s)) ∧ Below w.heap.size w w' := by
  have HN := Lib.hid (lnone_any w q g (h.blk.cell 0))
  have c1 : w.cell? ⟨q, 1, none⟩ = some (.int .i64 s.secs) := h.blk.cell 1
  have c2 : w.cell? ⟨q, 2, none⟩ = some (.int .i64 s.fin) := h.blk.cell 2
  have hS : s.secs ≤ 16384 := by have := h.dev.pos.2; have := h.secs; omega
  have hF := h.fin
  have HR := Lib.hid (show roomI s = min (max (64 * ((s.secs : Int) - s.fin - 1) - 12) 0) 4000 from rfl)
  generalize s.secs = S at *
  generalize s.fin = F at *
  clear h
  by_cases hp : 0 ≤ 64 * ((S : Int) - F - 1) - 12
  · have e1 : max (64 * ((S : Int) - F - 1) - 12) 0 = 64 * ((S : Int) - F - 1) - 12 := by omega
    rw [e1] at HR
    clear e1
    by_cases hm : 64 * ((S : Int) - F - 1) - 12 ≤ 4000
    · have HR2 := Lib.hid (show roomI s = 64 * ((S : Int) - F - 1) - 12 from by rw [HR.out]; omega)
      clear HR
      go_enter Tryd.func13, Tryd.ntmps13
      go_wp2_with fail
      refine HN.out.mono ?_
      rintro e w1 ⟨rfl, rfl⟩
      go_upto_region 3 with (fail)
      go_quiet (fail)
      go_wp2
      go_ret
      exact ⟨ret_int HR2.out.symm, below_drewN0 (Below.refl _ _) _⟩
    · have HR2 := Lib.hid (show roomI s = 4000 from by rw [HR.out]; omega)
      have hm2 : (4000 : Int) < 64 * ((S : Int) - F - 1) - 12 := by omega
      clear HR hm
      go_enter Tryd.func13, Tryd.ntmps13
      go_wp2_with fail
      refine HN.out.mono ?_
      rintro e w1 ⟨rfl, rfl⟩
      go_upto_region 3 with (fail)
      go_quiet (fail)
      go_wp2
      go_ret
      exact ⟨ret_int HR2.out.symm, below_drewN0 (Below.refl _ _) _⟩
  · have HR2 := Lib.hid (show roomI s = 0 from by rw [HR.out]; omega)
    have hm2 : 64 * ((S : Int) - F - 1) - 12 < 0 := by omega
    clear HR hp
    go_enter Tryd.func13, Tryd.ntmps13
    go_wp2_with fail
    refine HN.out.mono ?_
    rintro e w1 ⟨rfl, rfl⟩
    go_upto_region 3 with (fail)
    go_quiet (fail)
    go_wp2
    go_ret
    exact ⟨ret_int HR2.out.symm, below_drewN0 (Below.refl _ _) _⟩

set_option maxRecDepth 100000 in
set_option maxHeartbeats 1000000 in
theorem lrecords_any (w : World) (q g b B : Nat) (v : Value) (s : LSt) (d : DSt) (h : Lg w q g b B v s d) : Calls Tryd.prog 12 #[.pointer (some ⟨q, 0, none⟩)] w fun e w' => ∃ x, e = .returned x ∧ OBs w' w.heap.size x s.l ∧ Below w.heap.size w w' := by
  have HN := Lib.hid (lnone_any w q g (h.blk.cell 0))
  obtain ⟨a, c, rfl⟩ := h.val
  have c3 : w.cell? ⟨q, 3, none⟩ = some (.slice a s.l.length c) := h.blk.cell 3
  have HR := Lib.hid h.row.sls
  have HSH := Lib.hid h.short
  have hcnt : s.l.length ≤ 16384 := by have := h.dev.pos.2; have := h.secs; have := h.cnt; have := h.fin; omega
  generalize s.l = L at *
  clear h
  go_enter Tryd.func12, Tryd.ntmps12
  go_wp2_with fail
  refine HN.out.mono ?_
  rintro e w1 ⟨rfl, rfl⟩
  go_wp2
  clear c3 HN
  go_loopw [3, 13] (fun x i wr => ∃ (k : Nat), k ≤ L.length ∧ i = .int .i64 k ∧ OBs wr w.heap.size x (L.take k) ∧ Below w.heap.size w wr) (fun _ i _ => L.length - (intOf i).toNat)
  case atStart => exact ⟨0, by omega, rfl, OBs.nil _ _, Below.refl _ _⟩
  case round =>
    obtain ⟨k, hk, rfl, hO, hb⟩ := hrel
    obtain ⟨va, vc, hv⟩ := hO.val
    subst hv
    have hlk : (L.take k).length = k := by rw [List.length_take]; omega
    rw [hlk] at hO ⊢
    by_cases hlt : k < L.length
    · have hkI : (k : Int) < (L.length : Int) := by omega
      obtain ⟨lb, lo, rfl, hlb, u, cu, hu⟩ := HR.out.at hlt
      have hlen := HSH.out _ (getD_mem hlt)
      have HT := Lib.hid (show L.take (k + 1) = L.take k ++ [L.getD k []] from by rw [List.take_succ_eq_append_getElem hlt, List.getD_eq_getElem?_getD, List.getElem?_eq_getElem hlt]; rfl)
      have HLN := Lib.hid (show (L.take k).length + 1 ≤ 5000000000000 by rw [hlk]; omega)
      generalize L.getD k [] = p at *
      have cu := (hb.cell (p := ⟨lb, lo + k, none⟩) hlb).trans cu
      have HC := Lib.hid (sclone_own u p wr (by omega) (hu.below hb (Nat.le_refl _)))
      obtain ⟨ua, un, uc, rfl⟩ := hu.val
      clear hu hlen hlk
      go_wp2_with fail
      refine HC.out.mono ?_
      rintro e w2 ⟨x, rfl, hx, hb2⟩
      obtain ⟨xa, xn, xc, rfl⟩ := hx.sl.val
      have hO2 := hO.below hb2
      have hbw := hb.trans (hb2.mono hb.size)
      have hbA : Below w2.heap.size w2 (w2.alloc (.cells #[.slice xa xn xc] 26)) := (Below.refl _ _).alloc (Nat.le_refl _) _
      have hO3 := hO2.below hbA
      have hx3 := (hx.below hbA).base hb.size
      have hc3 := (Blk.new w2 26 #[.slice xa xn xc]).cell 0
      have hbA2 := hbw.trans (hbA.mono hbw.size)
      clear hx hO hO2 hb2 hbA hbw
      go_wp2_with (at_builtin; refine wpList_append_ob rfl _ _ rfl w.heap.size _ _ rfl hO3 w2.heap.size 1 rfl (.slice xa xn xc) hc3 _ hx3 HLN.out hbA2.size ?_)
      intro v5 w5 hO5 hb5 hg5
      have hb6 := hbA2.trans hb5
      rw [← HT.out] at hO5
      clear hb5 hg5 hO3 hx3 hc3 hbA2 hb
      go_wp2
      go_roundw
      case rel => exact ⟨k + 1, hlt, by go_num, hO5, hb6⟩
      case measure => simp [intOf]; omega
    · obtain rfl : k = L.length := by omega
      have hkI : ¬ (L.length : Int) < (L.length : Int) := by omega
      have HO := Lib.hid (show OBs wr w.heap.size (.slice va L.length vc) L from by rw [List.take_length] at hO; exact hO)
      clear hO hlk
      go_wp2
      go_ret
      exact ⟨_, rfl, HO.out, hb⟩

end Go.Proofs.YtgfkejecigefbaaDoor

namespace Go.Proofs.YtgfkejecigefbaaDoor
open Go.RowKit
set_option linter.unusedVariables false

/-- While records are read. -/
structure Sc (w1 wr : World) (q g : Nat) (img : List (List Int)) (n F : Nat) (v : Value) (L : List (List Int)) : Prop where
  blk : Blk wr q 36 #[.pointer (some ⟨g, 0, none⟩), .int .i64 n, .int .i64 F, v, .bool false]
  row : TBs wr w1.heap.size v L
  bel : Below w1.heap.size w1 wr
  fin : F ≤ n
  cnt : L.length ≤ F
  isB : ∀ p ∈ L, IsB p
  short : ∀ p ∈ L, 1 ≤ p.length ∧ p.length ≤ 4000
  scan : ∃ f, scanAll img = scanI img f F L ∧ n + 1 ≤ f + F
def finOf (q : Nat) (w : World) : Nat := (intOf ((w.cell? ⟨q, 2, none⟩).getD undef)).toNat

theorem Sls.from_ {w : World} {b o n c : Nat} {pss : List (List Int)} (h : Sls w (.slice (some ⟨b, o, none⟩) n c) pss) (k : Nat) (hk : k ≤ pss.length) :
    (c = k → Sls w (.slice (some ⟨b, o, none⟩) (n - k) (c - k)) (pss.drop k)) ∧ (c ≠ k → Sls w (.slice (some ⟨b, o + k, none⟩) (n - k) (c - k)) (pss.drop k)) := by
  obtain ⟨vs, h1, h2, h3⟩ := h
  have hn : n = vs.length := h1.len.1
  have hd := h1.drop k (by omega)
  have hr : ∀ (i : Nat) (u : Value) (bs : List Int), (vs.drop k)[i]? = some u → (pss.drop k)[i]? = some bs → Sl w u (bs.map (Value.int .u8)) := fun i u bs hu hp => by
    rw [List.getElem?_drop] at hu hp
    exact h3 _ u bs hu hp
  constructor
  · intro hc
    rw [if_pos hc] at hd
    exact ⟨vs.drop k, hd, by simp [h2], hr⟩
  · intro hc
    rw [if_neg hc] at hd
    exact ⟨vs.drop k, hd, by simp [h2], hr⟩

/-- What Open answers. -/
def OpenP (w w' : World) (g b : Nat) (d : DSt) (e : Ending) : Prop :=
  (d.opened.2 = 0 ∧ ∃ q v, e = .returned (.tuple #[.pointer (some ⟨q, 0, none⟩), .int .i64 0]) ∧ w.heap.size ≤ q ∧ (∀ k, v.ownBlock = some k → w.heap.size ≤ k) ∧ Lg w' q g b w.heap.size v d.log d.opened.1) ∨
  (d.opened.2 ≠ 0 ∧ e = .returned (.tuple #[.pointer none, .int .i64 d.opened.2]) ∧ Dev w' g b d.opened.1)
theorem opened_len (d : DSt) : d.opened.1.l.length = d.l.length := by
  unfold DSt.opened
  split
  · rfl
  · exact wipeD_len _ _ _ _
theorem img_64 {d : DSt} (h : ∀ s ∈ d.l, s.ok) : ∀ p ∈ d.img, p.length = 64 := by
  intro p hp
  obtain ⟨s, hs, rfl⟩ := List.mem_map.1 hp
  exact (h s hs).1
theorem img_B {d : DSt} (h : ∀ s ∈ d.l, s.ok) : ∀ p ∈ d.img, IsB p := by
  intro p hp
  obtain ⟨s, hs, rfl⟩ := List.mem_map.1 hp
  exact (h s hs).2.2.1
theorem img_len (d : DSt) : d.img.length = d.l.length := by simp [DSt.img]

set_option maxRecDepth 100000 in
set_option maxHeartbeats 4000000 in
theorem open_any (w : World) (g b : Nat) (d : DSt) (ht : Tabs w) (h : Dev w g b d) :
    Calls Tryd.prog 16 #[.pointer (some ⟨g, 0, none⟩)] w fun e w' => OpenP w w' g b d e ∧ Only [g, b] w w' := by
  have HI := Lib.hid (dimage_any w g b d h)
  have HD := Lib.hid h
  have HT := Lib.hid ht
  have HIL := Lib.hid (img_len d)
  have H64 := Lib.hid (img_64 h.ok)
  have HBB := Lib.hid (img_B h.ok)
  have hpos := h.pos
  have HDE := Lib.hid (show DSt.img d = d.l.map Sec.now from rfl)
  clear h ht
  by_cases hdead : d.dead = true
  · have HO := Lib.hid (show d.opened = (d, 70) from if_pos hdead)
    go_enter Tryd.func16, Tryd.ntmps16
    go_wp2_with fail
    refine HI.out.mono ?_
    rintro e w1 ⟨x, rfl, hx, hb1⟩
    obtain ⟨xa, xc, rfl⟩ := hx.val
    rw [List.length_map]
    have hzI : ((d.l.length : Int) == 0) = false := by rw [beq_eq_false_iff_ne]; omega
    have HDD := Lib.hid (ddead_any w1 g b d (HD.out.below hb1))
    rw [hdead] at HDD
    have HB1 := Lib.hid hb1
    clear hx hb1
    go_wp2_with fail
    refine HDD.out.mono ?_
    rintro e w2 ⟨rfl, rfl⟩
    go_wp2
    go_ret2
    exact ⟨.inr ⟨by rw [HO.out]; simp, by rw [HO.out]; rfl, by rw [HO.out]; exact HD.out.below HB1.out⟩, Only.of_below _ HB1.out⟩
  · have HO := Lib.hid (show d.opened = d.wiped from if_neg hdead)
    have hdf : d.dead = false := by simpa using hdead
    go_enter Tryd.func16, Tryd.ntmps16
    go_wp2_with fail
    refine HI.out.mono ?_
    rintro e w1 ⟨x, rfl, hx, hb1⟩
    obtain ⟨xa, xc, rfl⟩ := hx.val
    rw [List.length_map]
    have hzI : ((d.l.length : Int) == 0) = false := by rw [beq_eq_false_iff_ne]; omega
    have HDD := Lib.hid (ddead_any w1 g b d (HD.out.below hb1))
    rw [hdf] at HDD
    have HB1 := Lib.hid hb1
    rw [← HDE.out] at hx
    have HX := Lib.hid hx
    obtain ⟨n, hn⟩ : ∃ n, d.l.length = n := ⟨_, rfl⟩
    rw [hn] at hpos hzI ⊢
    rw [hn] at HIL
    have HNN := Lib.hid hn
    clear hx hb1 hdead hdf hn
    go_wp2_with fail
    refine HDD.out.mono ?_
    rintro e w2 ⟨rfl, rfl⟩
    have kq := Blk.new w1 36 #[.pointer (some ⟨g, 0, none⟩), .int .i64 n, .int .i64 0, .slice none 0 0, .bool false]
    have hbq : Below w1.heap.size w1 (w1.alloc (.cells #[.pointer (some ⟨g, 0, none⟩), .int .i64 n, .int .i64 0, .slice none 0 0, .bool false] 36)) := (Below.refl _ _).alloc (Nat.le_refl _) _
    have HST := Lib.hid (show Sc w1 (w1.alloc (.cells #[.pointer (some ⟨g, 0, none⟩), .int .i64 n, .int .i64 0, .slice none 0 0, .bool false] 36)) w1.heap.size g d.img n 0 (.slice none 0 0) [] from
      ⟨kq, TBs.nil _ _, hbq, Nat.zero_le _, Nat.le_refl _, by simp, by simp, ⟨d.img.length + 1, rfl, by rw [HIL.out]; omega⟩⟩)
    clear kq hbq
    go_wp2
    have HXB := Lib.hid (HX.out)
    have HNT := Lib.hid (HD.out.noText)
    generalize (w1.alloc (.cells #[.pointer (some ⟨g, 0, none⟩), .int .i64 n, .int .i64 0, .slice none 0 0, .bool false] 36)) = w2 at *
    go_loopw [] (fun wr => ∃ (F : Nat) (v : Value) (L : List (List Int)), Hid (Sc w1 wr w1.heap.size g d.img n F v L)) (fun wr => n - finOf w1.heap.size wr)
    case atStart => exact ⟨_, _, _, HST⟩
    case round =>
      obtain ⟨F, v, L, hs⟩ := hrel
      obtain ⟨va, vc, rfl⟩ := hs.out.row.val
      have c2 : wr.cell? ⟨w1.heap.size, 2, none⟩ = some (.int .i64 F) := hs.out.blk.cell 2
      have c3 : wr.cell? ⟨w1.heap.size, 3, none⟩ = some (.slice va L.length vc) := hs.out.blk.cell 3
      have hFn := hs.out.fin
      have HF0 := Lib.hid (show finOf w1.heap.size wr = F from by unfold finOf; rw [c2]; simp [intOf])
      have hLn : L.length ≤ 16384 := by have := hs.out.cnt; omega
      have hw1 : IntKind.i64.wrap ((L.length : Int) + 1) = (L.length : Int) + 1 := by rw [IntKind.wrap_i64]; omega
      have hXr := (HX.out.below hs.out.bel).sls
      have hqw : w1.heap.size < wr.heap.size := hs.out.blk.lt
      have HNX := Lib.hid (fun (vi : Value) (w' : World) (hb : Below wr.heap.size wr w') (hv : Sls w' vi (d.img.drop F)) => next_any vi (d.img.drop F) ((L.length : Int) + 1) w' (by omega) (by omega) (by rw [List.length_drop, HIL.out]; omega) (fun p hp => H64.out p (List.mem_of_mem_drop hp)) (fun p hp => HBB.out p (List.mem_of_mem_drop hp)) (HT.out.below (below_trans2 (below_trans2 HB1.out hs.out.bel) hb)) hv)
      obtain ⟨xg, xo, rfl, _, _⟩ := hXr.at (k := 0) (by rw [HIL.out]; omega)
      have hFI := hXr.from_ F (by rw [HIL.out]; exact hFn)
      rw [HIL.out] at hFI
      have hG := Lib.hid (And.intro c2 c3)
      have HG2 := Lib.hid (fun w' (hb : Below wr.heap.size wr w') => And.intro ((hb.cell (p := ⟨w1.heap.size, 2, none⟩) hqw).trans c2) ((hb.cell (p := ⟨w1.heap.size, 3, none⟩) hqw).trans c3))
      by_cases hcF : xc = F
      · have HV := Lib.hid (hFI.1 hcF)
        obtain rfl : F = xc := hcF.symm
        rw [show F - F = 0 by omega] at HV
        clear hcF
        clear hFI hXr
        go_upto_region 7 with (fail)
        go_region_held3 (fun w' => w'.cell? ⟨w1.heap.size, 2, none⟩ = some (.int .i64 F) ∧ w'.cell? ⟨w1.heap.size, 3, none⟩ = some (.slice va L.length vc)) (first | exact hG.out | exact HG2.out _ (by assumption)) (first | (go_at_call 39; refine (HNX.out _ _ (by first | exact Below.refl _ _ | exact (Below.refl _ _).drew) (by first | exact HV.out | exact HV.out.below (Below.refl _ _).drew (Nat.le_refl _))).mono ?_; rintro e w3 ⟨ra, rn, rc, ln, ok, rfl, hx3, hb3⟩; have hb3 : Below wr.heap.size wr w3 := ⟨hb3.os, hb3.tape, hb3.output, hb3.size, hb3.block⟩; have HX3 := Lib.hid hx3; clear hx3))
        have HB3 := Lib.hid (below_trans2 hs.out.bel hb3)
        have HKQ := Lib.hid (hs.out.blk.belowS hb3)
        have HRW := Lib.hid (hs.out.row.below hb3)
        have HSF := Lib.hid (And.intro hs.out.fin (And.intro hs.out.cnt (And.intro hs.out.isB (And.intro hs.out.short hs.out.scan))))
        have hszr := hs.out.bel.size
        clear hs c2 c3 HNX hG HG2 HV hb3 hw1
        have c2 : w3.cell? ⟨w1.heap.size, 2, none⟩ = some (.int .i64 F) := HKQ.out.cell 2
        have c3 : w3.cell? ⟨w1.heap.size, 3, none⟩ = some (.slice va L.length vc) := HKQ.out.cell 3
        cases ok with
        | false =>
          have hnone := HX3.out.2 rfl
          obtain ⟨hq1, hq2, hq3, hq4, f, hq5, hq6⟩ := HSF.out
          have hsc : scanAll d.img = (L, F) := hq5.trans (scanI_none hnone)
          have HW := Lib.hid (show d.wiped = wipeD (d.img.drop F) F false d from by unfold DSt.wiped; rw [hsc])
          have HLOG := Lib.hid (show d.log = ⟨n, F, L, false⟩ from by unfold DSt.log; rw [hsc, HNN.out])
          have HLG := Lib.hid (show Lg w3 w1.heap.size g b w.heap.size (.slice va L.length vc) ⟨n, F, L, false⟩ d from
            ⟨HKQ.out, HRW.out.base HB1.out.size, HD.out.below (below_trans2 HB1.out HB3.out), HNN.out.symm, hq1, hq2, hq3, hq4, Nat.le_trans HB1.out.size HB3.out.size⟩)
          have himg : TBr w3 (.slice (some ⟨xg, xo, none⟩) n F) d.img := by
            have h1 := ((HX.out.below HB3.out).tbs (fun p hp => by rw [H64.out p hp]; omega)).tbr (by rw [HIL.out]; omega)
            rw [HIL.out] at h1; exact h1
          have HWI := Lib.hid (wipe_any w3 w1.heap.size g b w.heap.size _ ⟨n, F, L, false⟩ d _ d.img HLG.out himg HIL.out H64.out)
          clear hq1 hq2 hq3 hq4 hq5 hq6 hnone hsc himg c2 c3
          go_wp2_with fail
          refine HWI.out.mono ?_
          rintro e w4 ⟨rfl, hD4, hO4⟩
          have hO4 : Only [g, b] w3 w4 := hO4
          have hD4 : Dev w4 g b (wipeD (d.img.drop F) F false d).1 := hD4
          rw [← HW.out] at hD4 ⊢
          have HLG4 := Lib.hid (HLG.out.devOnly hO4 hD4 (by rw [HW.out]; exact wipeD_len _ _ _ _))
          have HO5 := Lib.hid ((Only.of_below [g, b] (below_trans2 HB1.out HB3.out)).trans hO4)
          clear hD4 hO4 HWI
          by_cases he : d.wiped.2 = 0
          · rw [he]
            go_wp2
            go_ret2
            exact ⟨.inl ⟨by rw [HO.out]; exact he, _, _, rfl, HB1.out.size, fun k hk => Nat.le_trans HB1.out.size (HRW.out.low hk).1, by rw [HLOG.out, HO.out]; exact HLG4.out⟩, HO5.out⟩
          · have heb : (d.wiped.2 == 0) = false := by rw [beq_eq_false_iff_ne]; exact he
            have HE := Lib.hid he
            generalize hE : d.wiped.2 = er at *
            have HEE := Lib.hid hE
            clear hE
            go_wp2
            go_ret2
            exact ⟨.inr ⟨by rw [HO.out, HEE.out]; exact HE.out, by rw [HO.out, HEE.out]; rfl, by rw [HO.out]; exact HLG4.out.dev⟩, HO5.out⟩
        | true =>
          obtain ⟨m, rfl, hnx, htb⟩ := HX3.out.1 rfl
          obtain ⟨hq1, hq2, hq3, hq4, f, hq5, hq6⟩ := HSF.out
          have hnl := nextI_le (fun p hp => H64.out p (List.mem_of_mem_drop hp)) hnx
          have hml : F + m ≤ n := by have h := hnl.1; rw [List.length_drop, HIL.out] at h; omega
          have hm1 := hnl.2.1
          have HSC := Lib.hid (show ∃ f, scanAll d.img = scanI d.img f (F + m) (L ++ [bodyI (d.img.drop F)]) ∧ n + 1 ≤ f + (F + m) from by
            obtain ⟨f', rfl⟩ : ∃ f', f = f' + 1 := ⟨f - 1, by omega⟩
            exact ⟨f', hq5.trans (scanI_some hnx), by omega⟩)
          have HBD := Lib.hid (And.intro (bodyI_isB (fun p hp => HBB.out p (List.mem_of_mem_drop hp)) : IsB (bodyI (d.img.drop F))) hnl.2.2)
          generalize bodyI (d.img.drop F) = BD at *
          obtain ⟨tb, tf, tc, e, _⟩ := id htb
          cases e
          have HTB := Lib.hid htb
          have HQ := Lib.hid (And.intro hq1 (And.intro hq2 (And.intro hq3 hq4)))
          have hbA : Below w3.heap.size w3 (w3.alloc (.cells #[.slice (some ⟨tb, tf, none⟩) BD.length rc] 26)) := (Below.refl _ _).alloc (Nat.le_refl _) _
          have HRA := Lib.hid (HRW.out.below hbA)
          have HTA := Lib.hid ((HTB.out.below hbA).base hszr)
          have HCA := Lib.hid ((Blk.new w3 26 #[.slice (some ⟨tb, tf, none⟩) BD.length rc]).cell 0)
          have HKA := Lib.hid (HKQ.out.belowS hbA)
          have HBA := Lib.hid (below_trans2 HB3.out hbA)
          have hL5 : L.length + 1 ≤ 5000000000000 := by omega
          have HL5 := Lib.hid hL5
          clear hq1 hq2 hq3 hq4 hq5 hq6 hnx htb hnl hbA hL5 HX3 HSF
          go_wp2_with (at_builtin; refine wpList_append_tb rfl _ _ rfl w1.heap.size _ L rfl HRA.out w3.heap.size 1 rfl (.slice (some ⟨tb, tf, none⟩) BD.length rc) HCA.out BD HTA.out HL5.out HBA.out.size ?_)
          intro v5 w5 hO5 hb5 hg5 _
          obtain ⟨v5a, v5n, v5c, rfl⟩ : ∃ a n c, v5 = Value.slice a n c := (by obtain ⟨a, c, e⟩ := hO5.val; exact ⟨a, _, c, e⟩)
          have hk5 : Blk w5 w1.heap.size 36 #[.pointer (some ⟨g, 0, none⟩), .int .i64 n, .int .i64 F, .slice va L.length vc, .bool false] := HKA.out.grown hg5 (fun e => by
            obtain ⟨cur, kk⟩ := HRA.out.blk e.symm
            exact Blk.ne_ HKA.out kk (by decide) rfl)
          have hk6 := hk5.set_ 3 (.slice v5a v5n v5c)
          have hk7 := hk6.set_ 2 (.int .i64 ((F : Int) + (m : Int)))
          have f3 := hk5.frozen 3
          have c35 : w5.cell? ⟨w1.heap.size, 3, none⟩ = some (.slice va L.length vc) := hk5.cell 3
          have c6 : (w5.setCell ⟨w1.heap.size, 3, none⟩ (.slice v5a v5n v5c)).cell? ⟨w1.heap.size, 2, none⟩ = some (.int .i64 F) := hk6.cell 2
          have f6 := hk6.frozen 2
          have ho6 : Only [w1.heap.size] w5 ((w5.setCell ⟨w1.heap.size, 3, none⟩ (.slice v5a v5n v5c)).setCell ⟨w1.heap.size, 2, none⟩ (.int .i64 ((F : Int) + (m : Int)))) := (Only.setCell _ _ (by simp) _).trans (Only.setCell _ _ (by simp) _)
          have hr6 := hO5.only ho6 (fun k hk cur e => by
              obtain rfl : k = w1.heap.size := by simpa using hk
              exact Blk.ne_ e hk5 (by decide) rfl) (fun k hk hm => by
              obtain rfl : k = w1.heap.size := by simpa using hm
              obtain ⟨cur, kk⟩ := hO5.blk hk
              exact Blk.ne_ kk hk5 (by decide) rfl)
          have hB6 := Only.belowOf (HBA.out.trans hb5) ho6 (Nat.le_trans HBA.out.size hb5.size) (fun k hk => by obtain rfl : k = w1.heap.size := (by simpa using hk); exact Nat.le_refl _)
          have HSC2 := Lib.hid (show Sc w1 ((w5.setCell ⟨w1.heap.size, 3, none⟩ (.slice v5a v5n v5c)).setCell ⟨w1.heap.size, 2, none⟩ (.int .i64 ((F : Int) + (m : Int)))) w1.heap.size g d.img n (F + m) (.slice v5a v5n v5c) (L ++ [BD]) from
            ⟨by rw [show ((F + m : Nat) : Int) = (F : Int) + (m : Int) from by omega]; exact hk7, hr6, hB6, hml, by have := HQ.out.2.1; simp; omega, fun p hp => by
              rcases List.mem_append.1 hp with h1 | h1
              · exact HQ.out.2.2.1 p h1
              · obtain rfl : p = BD := by simpa using h1
                exact HBD.out.1, fun p hp => by
              rcases List.mem_append.1 hp with h1 | h1
              · exact HQ.out.2.2.2 p h1
              · obtain rfl : p = BD := by simpa using h1
                exact HBD.out.2, HSC.out⟩)
          have HFI := Lib.hid (show finOf w1.heap.size ((w5.setCell ⟨w1.heap.size, 3, none⟩ (.slice v5a v5n v5c)).setCell ⟨w1.heap.size, 2, none⟩ (.int .i64 ((F : Int) + (m : Int)))) = F + m from by
            unfold finOf
            rw [show _ = some (Value.int .i64 ((F : Int) + (m : Int))) from hk7.cell 2]
            simp [intOf]; omega)
          have hw : IntKind.i64.wrap ((F : Int) + (m : Int)) = (F : Int) + (m : Int) := by rw [IntKind.wrap_i64]; omega
          clear hk5 hk6 hk7 ho6 hr6 hB6 hb5 hg5 hO5
          go_wp2
          go_roundw
          case rel => exact ⟨F + m, (.slice v5a v5n v5c), L ++ [BD], HSC2⟩
          case measure => rw [HFI.out, HF0.out]; omega
      · have HV := Lib.hid (hFI.2 hcF)
        clear hFI hXr
        go_upto_region 7 with (fail)
        go_region_held3 (fun w' => w'.cell? ⟨w1.heap.size, 2, none⟩ = some (.int .i64 F) ∧ w'.cell? ⟨w1.heap.size, 3, none⟩ = some (.slice va L.length vc)) (first | exact hG.out | exact HG2.out _ (by assumption)) (first | (go_at_call 39; refine (HNX.out _ _ (by first | exact Below.refl _ _ | exact (Below.refl _ _).drew) (by first | exact HV.out | exact HV.out.below (Below.refl _ _).drew (Nat.le_refl _))).mono ?_; rintro e w3 ⟨ra, rn, rc, ln, ok, rfl, hx3, hb3⟩; have hb3 : Below wr.heap.size wr w3 := ⟨hb3.os, hb3.tape, hb3.output, hb3.size, hb3.block⟩; have HX3 := Lib.hid hx3; clear hx3))
        have HB3 := Lib.hid (below_trans2 hs.out.bel hb3)
        have HKQ := Lib.hid (hs.out.blk.belowS hb3)
        have HRW := Lib.hid (hs.out.row.below hb3)
        have HSF := Lib.hid (And.intro hs.out.fin (And.intro hs.out.cnt (And.intro hs.out.isB (And.intro hs.out.short hs.out.scan))))
        have hszr := hs.out.bel.size
        clear hs c2 c3 HNX hG HG2 HV hb3 hw1
        have c2 : w3.cell? ⟨w1.heap.size, 2, none⟩ = some (.int .i64 F) := HKQ.out.cell 2
        have c3 : w3.cell? ⟨w1.heap.size, 3, none⟩ = some (.slice va L.length vc) := HKQ.out.cell 3
        cases ok with
        | false =>
          have hnone := HX3.out.2 rfl
          obtain ⟨hq1, hq2, hq3, hq4, f, hq5, hq6⟩ := HSF.out
          have hsc : scanAll d.img = (L, F) := hq5.trans (scanI_none hnone)
          have HW := Lib.hid (show d.wiped = wipeD (d.img.drop F) F false d from by unfold DSt.wiped; rw [hsc])
          have HLOG := Lib.hid (show d.log = ⟨n, F, L, false⟩ from by unfold DSt.log; rw [hsc, HNN.out])
          have HLG := Lib.hid (show Lg w3 w1.heap.size g b w.heap.size (.slice va L.length vc) ⟨n, F, L, false⟩ d from
            ⟨HKQ.out, HRW.out.base HB1.out.size, HD.out.below (below_trans2 HB1.out HB3.out), HNN.out.symm, hq1, hq2, hq3, hq4, Nat.le_trans HB1.out.size HB3.out.size⟩)
          have himg : TBr w3 (.slice (some ⟨xg, xo, none⟩) n xc) d.img := by
            have h1 := ((HX.out.below HB3.out).tbs (fun p hp => by rw [H64.out p hp]; omega)).tbr (by rw [HIL.out]; omega)
            rw [HIL.out] at h1; exact h1
          have HWI := Lib.hid (wipe_any w3 w1.heap.size g b w.heap.size _ ⟨n, F, L, false⟩ d _ d.img HLG.out himg HIL.out H64.out)
          clear hq1 hq2 hq3 hq4 hq5 hq6 hnone hsc himg c2 c3
          go_wp2_with fail
          refine HWI.out.mono ?_
          rintro e w4 ⟨rfl, hD4, hO4⟩
          have hO4 : Only [g, b] w3 w4 := hO4
          have hD4 : Dev w4 g b (wipeD (d.img.drop F) F false d).1 := hD4
          rw [← HW.out] at hD4 ⊢
          have HLG4 := Lib.hid (HLG.out.devOnly hO4 hD4 (by rw [HW.out]; exact wipeD_len _ _ _ _))
          have HO5 := Lib.hid ((Only.of_below [g, b] (below_trans2 HB1.out HB3.out)).trans hO4)
          clear hD4 hO4 HWI
          by_cases he : d.wiped.2 = 0
          · rw [he]
            go_wp2
            go_ret2
            exact ⟨.inl ⟨by rw [HO.out]; exact he, _, _, rfl, HB1.out.size, fun k hk => Nat.le_trans HB1.out.size (HRW.out.low hk).1, by rw [HLOG.out, HO.out]; exact HLG4.out⟩, HO5.out⟩
          · have heb : (d.wiped.2 == 0) = false := by rw [beq_eq_false_iff_ne]; exact he
            have HE := Lib.hid he
            generalize hE : d.wiped.2 = er at *
            have HEE := Lib.hid hE
            clear hE
            go_wp2
            go_ret2
            exact ⟨.inr ⟨by rw [HO.out, HEE.out]; exact HE.out, by rw [HO.out, HEE.out]; rfl, by rw [HO.out]; exact HLG4.out.dev⟩, HO5.out⟩
        | true =>
          obtain ⟨m, rfl, hnx, htb⟩ := HX3.out.1 rfl
          obtain ⟨hq1, hq2, hq3, hq4, f, hq5, hq6⟩ := HSF.out
          have hnl := nextI_le (fun p hp => H64.out p (List.mem_of_mem_drop hp)) hnx
          have hml : F + m ≤ n := by have h := hnl.1; rw [List.length_drop, HIL.out] at h; omega
          have hm1 := hnl.2.1
          have HSC := Lib.hid (show ∃ f, scanAll d.img = scanI d.img f (F + m) (L ++ [bodyI (d.img.drop F)]) ∧ n + 1 ≤ f + (F + m) from by
            obtain ⟨f', rfl⟩ : ∃ f', f = f' + 1 := ⟨f - 1, by omega⟩
            exact ⟨f', hq5.trans (scanI_some hnx), by omega⟩)
          have HBD := Lib.hid (And.intro (bodyI_isB (fun p hp => HBB.out p (List.mem_of_mem_drop hp)) : IsB (bodyI (d.img.drop F))) hnl.2.2)
          generalize bodyI (d.img.drop F) = BD at *
          obtain ⟨tb, tf, tc, e, _⟩ := id htb
          cases e
          have HTB := Lib.hid htb
          have HQ := Lib.hid (And.intro hq1 (And.intro hq2 (And.intro hq3 hq4)))
          have hbA : Below w3.heap.size w3 (w3.alloc (.cells #[.slice (some ⟨tb, tf, none⟩) BD.length rc] 26)) := (Below.refl _ _).alloc (Nat.le_refl _) _
          have HRA := Lib.hid (HRW.out.below hbA)
          have HTA := Lib.hid ((HTB.out.below hbA).base hszr)
          have HCA := Lib.hid ((Blk.new w3 26 #[.slice (some ⟨tb, tf, none⟩) BD.length rc]).cell 0)
          have HKA := Lib.hid (HKQ.out.belowS hbA)
          have HBA := Lib.hid (below_trans2 HB3.out hbA)
          have hL5 : L.length + 1 ≤ 5000000000000 := by omega
          have HL5 := Lib.hid hL5
          clear hq1 hq2 hq3 hq4 hq5 hq6 hnx htb hnl hbA hL5 HX3 HSF
          go_wp2_with (at_builtin; refine wpList_append_tb rfl _ _ rfl w1.heap.size _ L rfl HRA.out w3.heap.size 1 rfl (.slice (some ⟨tb, tf, none⟩) BD.length rc) HCA.out BD HTA.out HL5.out HBA.out.size ?_)
          intro v5 w5 hO5 hb5 hg5 _
          obtain ⟨v5a, v5n, v5c, rfl⟩ : ∃ a n c, v5 = Value.slice a n c := (by obtain ⟨a, c, e⟩ := hO5.val; exact ⟨a, _, c, e⟩)
          have hk5 : Blk w5 w1.heap.size 36 #[.pointer (some ⟨g, 0, none⟩), .int .i64 n, .int .i64 F, .slice va L.length vc, .bool false] := HKA.out.grown hg5 (fun e => by
            obtain ⟨cur, kk⟩ := HRA.out.blk e.symm
            exact Blk.ne_ HKA.out kk (by decide) rfl)
          have hk6 := hk5.set_ 3 (.slice v5a v5n v5c)
          have hk7 := hk6.set_ 2 (.int .i64 ((F : Int) + (m : Int)))
          have f3 := hk5.frozen 3
          have c35 : w5.cell? ⟨w1.heap.size, 3, none⟩ = some (.slice va L.length vc) := hk5.cell 3
          have c6 : (w5.setCell ⟨w1.heap.size, 3, none⟩ (.slice v5a v5n v5c)).cell? ⟨w1.heap.size, 2, none⟩ = some (.int .i64 F) := hk6.cell 2
          have f6 := hk6.frozen 2
          have ho6 : Only [w1.heap.size] w5 ((w5.setCell ⟨w1.heap.size, 3, none⟩ (.slice v5a v5n v5c)).setCell ⟨w1.heap.size, 2, none⟩ (.int .i64 ((F : Int) + (m : Int)))) := (Only.setCell _ _ (by simp) _).trans (Only.setCell _ _ (by simp) _)
          have hr6 := hO5.only ho6 (fun k hk cur e => by
              obtain rfl : k = w1.heap.size := by simpa using hk
              exact Blk.ne_ e hk5 (by decide) rfl) (fun k hk hm => by
              obtain rfl : k = w1.heap.size := by simpa using hm
              obtain ⟨cur, kk⟩ := hO5.blk hk
              exact Blk.ne_ kk hk5 (by decide) rfl)
          have hB6 := Only.belowOf (HBA.out.trans hb5) ho6 (Nat.le_trans HBA.out.size hb5.size) (fun k hk => by obtain rfl : k = w1.heap.size := (by simpa using hk); exact Nat.le_refl _)
          have HSC2 := Lib.hid (show Sc w1 ((w5.setCell ⟨w1.heap.size, 3, none⟩ (.slice v5a v5n v5c)).setCell ⟨w1.heap.size, 2, none⟩ (.int .i64 ((F : Int) + (m : Int)))) w1.heap.size g d.img n (F + m) (.slice v5a v5n v5c) (L ++ [BD]) from
            ⟨by rw [show ((F + m : Nat) : Int) = (F : Int) + (m : Int) from by omega]; exact hk7, hr6, hB6, hml, by have := HQ.out.2.1; simp; omega, fun p hp => by
              rcases List.mem_append.1 hp with h1 | h1
              · exact HQ.out.2.2.1 p h1
              · obtain rfl : p = BD := by simpa using h1
                exact HBD.out.1, fun p hp => by
              rcases List.mem_append.1 hp with h1 | h1
              · exact HQ.out.2.2.2 p h1
              · obtain rfl : p = BD := by simpa using h1
                exact HBD.out.2, HSC.out⟩)
          have HFI := Lib.hid (show finOf w1.heap.size ((w5.setCell ⟨w1.heap.size, 3, none⟩ (.slice v5a v5n v5c)).setCell ⟨w1.heap.size, 2, none⟩ (.int .i64 ((F : Int) + (m : Int)))) = F + m from by
            unfold finOf
            rw [show _ = some (Value.int .i64 ((F : Int) + (m : Int))) from hk7.cell 2]
            simp [intOf]; omega)
          have hw : IntKind.i64.wrap ((F : Int) + (m : Int)) = (F : Int) + (m : Int) := by rw [IntKind.wrap_i64]; omega
          clear hk5 hk6 hk7 ho6 hr6 hB6 hb5 hg5 hO5
          go_wp2
          go_roundw
          case rel => exact ⟨F + m, (.slice v5a v5n v5c), L ++ [BD], HSC2⟩
          case measure => rw [HFI.out, HF0.out]; omega

end Go.Proofs.YtgfkejecigefbaaDoor

namespace Go.Proofs.YtgfkejecigefbaaDoor
open Go.RowKit
set_option linter.unusedVariables false

/-- What Append answers. -/
def AppP (w w' : World) (q g b B : Nat) (v : Value) (r : LRes) (e : Ending) : Prop :=
  ∃ v', e = .returned (.int .i64 r.e) ∧ Lg w' q g b B v' r.s r.d ∧ (v'.ownBlock = v.ownBlock ∨ ∃ k, v'.ownBlock = some k ∧ w.heap.size ≤ k) ∧ Only (q :: g :: b :: v.ownBlock.toList) w w'
theorem textT_take (n : Int) (bs : List Int) : (laidI n bs).take (textS n bs).length = textS n bs := by
  unfold laidI; rw [List.take_left]
theorem mark_one (n : Int) (bs : List Int) : cut64 (markB n (textS n bs)) = [(laidI n bs).getD (textS n bs).length []] := by
  have h := markS_len n (textS n bs)
  match hm : cut64 (markB n (textS n bs)), h with
  | [p], _ =>
    congr 1
    unfold laidI
    rw [hm, List.getD_eq_getElem?_getD, List.getElem?_append_right (Nat.le_refl _), Nat.sub_self]
    rfl

set_option maxRecDepth 100000 in
set_option maxHeartbeats 2000000 in
theorem append_no (w : World) (q g b B : Nat) (v : Value) (s : LSt) (d : DSt) (vb : Value) (bs : List Int) (h : Lg w q g b B v s d) (hB : IsB bs) (ht : Tabs w) (hs : Sl w vb (bs.map (Value.int .u8)))
    (hno : (bs.length < 1 ∨ 4000 < bs.length) ∨ s.stop = true ∨ s.secs < s.fin + (laidI ((s.l.length : Int) + 1) bs).length) :
    Calls Tryd.prog 11 #[.pointer (some ⟨q, 0, none⟩), vb] w fun e w' => AppP w w' q g b B v (appD s d bs) e := by
  have HN := Lib.hid (lnone_any w q g (h.blk.cell 0))
  obtain ⟨va, vc, rfl⟩ := h.val
  have HL := Lib.hid h
  obtain ⟨ba, bc, rfl, hbc, hbm⟩ := hs.shape
  rw [List.length_map] at *
  have c4 : w.cell? ⟨q, 4, none⟩ = some (.bool s.stop) := h.blk.cell 4
  by_cases h1 : bs.length < 1
  · have h1I : ((bs.length : Int) < 1) := by omega
    have HA := Lib.hid (show appD s d bs = ⟨s, d, 1⟩ from by unfold appD; rw [if_pos (.inl h1)])
    clear hno h hs
    go_enter Tryd.func11, Tryd.ntmps11
    go_wp2_with fail
    refine HN.out.mono ?_
    rintro e w1 ⟨rfl, rfl⟩
    go_wp2
    go_ret
    exact ⟨_, by rw [HA.out]; rfl, by rw [HA.out]; exact HL.out, .inl rfl, Only.refl _ _⟩
  · have h1I : ¬ ((bs.length : Int) < 1) := by omega
    by_cases h2 : 4000 < bs.length
    · have h2I : ((4000 : Int) < (bs.length : Int)) := by omega
      have HA := Lib.hid (show appD s d bs = ⟨s, d, 1⟩ from by unfold appD; rw [if_pos (.inr h2)])
      clear hno h hs
      go_enter Tryd.func11, Tryd.ntmps11
      go_wp2_with fail
      refine HN.out.mono ?_
      rintro e w1 ⟨rfl, rfl⟩
      go_wp2
      go_ret
      exact ⟨_, by rw [HA.out]; rfl, by rw [HA.out]; exact HL.out, .inl rfl, Only.refl _ _⟩
    · have h2I : ¬ ((4000 : Int) < (bs.length : Int)) := by omega
      have h12 : ¬ (bs.length < 1 ∨ 4000 < bs.length) := by omega
      by_cases h3 : s.stop = true
      · have HA := Lib.hid (show appD s d bs = ⟨s, d, 70⟩ from by unfold appD; rw [if_neg h12, if_pos h3])
        rw [h3] at c4
        clear hno h hs h12 h3
        go_enter Tryd.func11, Tryd.ntmps11
        go_wp2_with fail
        refine HN.out.mono ?_
        rintro e w1 ⟨rfl, rfl⟩
        go_wp2
        go_ret
        exact ⟨_, by rw [HA.out]; rfl, by rw [HA.out]; exact HL.out, .inl rfl, Only.refl _ _⟩
      · have h3f : s.stop = false := by simpa using h3
        have h4 : s.secs < s.fin + (laidI ((s.l.length : Int) + 1) bs).length := by
          rcases hno with h | h | h
          · exact absurd h h12
          · exact absurd h h3
          · exact h
        have HA := Lib.hid (show appD s d bs = ⟨s, d, 4⟩ from by unfold appD; rw [if_neg h12, if_neg h3, if_pos h4])
        rw [h3f] at c4
        have hS : s.secs ≤ 16384 := by have := h.dev.pos.2; have := h.secs; omega
        have hF := h.fin
        have hC : s.l.length ≤ 16384 := by have := h.cnt; omega
        have hw1 : IntKind.i64.wrap ((s.l.length : Int) + 1) = (s.l.length : Int) + 1 := by rw [IntKind.wrap_i64]; omega
        have HLD := Lib.hid (laid_any ((s.l.length : Int) + 1) (.slice ba bs.length bc) bs w (by omega) (by omega) (by omega) hB ht hs)
        have c3 : w.cell? ⟨q, 3, none⟩ = some (.slice va s.l.length vc) := h.blk.cell 3
        have HLL := Lib.hid (laidI_len ((s.l.length : Int) + 1) bs)
        have HKC := Lib.hid (fun w' (hb : Below w.heap.size w w') => And.intro ((hb.cell (p := ⟨q, 1, none⟩) h.blk.lt).trans (h.blk.cell 1)) ((hb.cell (p := ⟨q, 2, none⟩) h.blk.lt).trans (h.blk.cell 2)))
        clear hno h hs h12 h3 ht hB h3f
        go_enter Tryd.func11, Tryd.ntmps11
        go_wp2_with fail
        refine HN.out.mono ?_
        rintro e w1 ⟨rfl, rfl⟩
        go_wp2_with fail
        refine HLD.out.mono ?_
        rintro e w2 ⟨x, rfl, hx, hb2⟩
        obtain ⟨xa, xc, rfl⟩ := hx.val
        have HB2 := Lib.hid hb2
        obtain ⟨k1, k2⟩ := HKC.out w2 hb2
        have c1 : w2.cell? ⟨q, 1, none⟩ = some (.int .i64 s.secs) := k1
        have c2 : w2.cell? ⟨q, 2, none⟩ = some (.int .i64 s.fin) := k2
        have hM : (laidI ((s.l.length : Int) + 1) bs).length ≤ 100 := by rw [HLL.out]; omega
        have hM1 : 1 ≤ (laidI ((s.l.length : Int) + 1) bs).length := by rw [HLL.out]; omega
        clear k1 k2 hx hb2 HLD HKC
        generalize (laidI ((s.l.length : Int) + 1) bs).length = M at *
        generalize hSS : s.secs = S at *
        generalize hFF : s.fin = F at *
        have h4I : ((S : Int) - (F : Int)) < (M : Int) := by omega
        have hwS : IntKind.i64.wrap ((S : Int) - (F : Int)) = (S : Int) - (F : Int) := by rw [IntKind.wrap_i64]; omega
        clear hSS hFF
        go_upto_region 9 with (fail)
        go_quiet (fail)
        go_wp2
        go_ret
        exact ⟨_, by rw [HA.out]; rfl, by rw [HA.out]; exact HL.out.below (below_drewN0 HB2.out _), .inl rfl, Only.of_below _ (below_drewN0 HB2.out _)⟩

end Go.Proofs.YtgfkejecigefbaaDoor

namespace Go.Proofs.YtgfkejecigefbaaDoor
open Go.RowKit
set_option linter.unusedVariables false

theorem TBr.lit {w : World} {u : Value} {p : List Int} (h : TB w 0 u p) (hb : u.cells = #[u]) : TBr (w.alloc (.cells #[u] 26)) (.slice (some ⟨w.heap.size, 0, none⟩) 1 1) [p] := by
  have hbA : Below w.heap.size w (w.alloc (.cells #[u] 26)) := (Below.refl _ _).alloc (Nat.le_refl _) _
  have k := Blk.new w 26 #[u]
  refine ⟨w.heap.size, 0, 1, [u], rfl, Nat.le_refl _, by unfold maxLen; omega, ⟨_, k⟩, fun j y hy => ?_, ⟨h.below hbA, trivial⟩⟩
  match j, hy with
  | 0, hy => simp at hy; subst hy; exact k.cell 0
  | j + 1, hy => simp at hy
theorem TBr.lt {w : World} {b o n c : Nat} {pss : List (List Int)} (h : TBr w (.slice (some ⟨b, o, none⟩) n c) pss) : b < w.heap.size := by
  obtain ⟨b', o', c', us, e, _, _, ⟨cur, k⟩, _⟩ := h
  injection e with e
  injection e with e
  injection e with e1
  rw [e1]; exact k.lt
theorem layD_len (n : Int) (bs : List Int) (i : Nat) (d : DSt) : (layD n bs i d).1.l.length = d.l.length := by
  unfold layD
  split
  · rw [putW_len, putW_len]
  · exact putW_len _ _ _
/-- The log, where it has stopped. -/
theorem Lg.halt {w : World} {q g b B : Nat} {v : Value} {s : LSt} {d : DSt} (h : Lg w q g b B v s d) : Lg (w.setCell ⟨q, 4, none⟩ (.bool true)) q g b B v ⟨s.secs, s.fin, s.l, true⟩ d := by
  have ho : Only [q] w (w.setCell ⟨q, 4, none⟩ (.bool true)) := Only.setCell _ _ (by simp) _
  have hn : ∀ k ∈ [q], ∀ cur, ¬ Blk w k 5 cur := fun k hk cur e => by
    obtain rfl : k = q := by simpa using hk
    exact Blk.ne_ e h.blk (by decide) rfl
  refine ⟨h.blk.set_ 4 (.bool true), h.row.only ho hn (fun k hk hm => ?_), h.dev.only ho ?_ ?_, h.secs, h.fin, h.cnt, h.isB, h.short, Nat.le_trans h.base ho.size⟩
  · obtain rfl : k = q := by simpa using hm
    obtain ⟨cur, kk⟩ := h.row.blk hk
    exact Blk.ne_ kk h.blk (by decide) rfl
  · simp; exact fun e => h.apart.1 e.symm
  · simp; exact fun e => h.apart.2 e.symm

abbrev apAct (q : Nat) (vb : Value) (x2 x3 x4 x5 x6 x7 x8 x9 x10 x11 x12 x13 x14 x15 x16 x17 x18 x19 x20 x21 x22 x23 x24 x25 x26 x27 x28 x29 x30 x31 x32 x33 x34 x35 x36 x37 x38 x39 x40 x41 x42 x43 x44 x45 x46 x47 x48 x49 x50 x51 x52 x53 x54 x55 x56 x57 x58 x59 x60 x61 x62 x63 x64 x65 x66 x67 x68 x69 x70 x71 x72 x73 x74 x75 x76 x77 x89 x90 x91 x92 x93 x94 x95 x96 x97 : Value) (u : Nat → Value) : Act := { tmps := #[.pointer (some ⟨q, 0, none⟩), vb, x2, x3, x4, x5, x6, x7, x8, x9, x10, x11, x12, x13, x14, x15, x16, x17, x18, x19, x20, x21, x22, x23, x24, x25, x26, x27, x28, x29, x30, x31, x32, x33, x34, x35, x36, x37, x38, x39, x40, x41, x42, x43, x44, x45, x46, x47, x48, x49, x50, x51, x52, x53, x54, x55, x56, x57, x58, x59, x60, x61, x62, x63, x64, x65, x66, x67, x68, x69, x70, x71, x72, x73, x74, x75, x76, x77, u 78, u 79, u 80, u 81, u 82, u 83, u 84, u 85, u 86, u 87, u 88, x89, x90, x91, x92, x93, x94, x95, x96, x97], defers := [] }
structure Ap8 (q g b B : Nat) (v : Value) (S F : Nat) (L : List (List Int)) (bs : List Int) (d : DSt) (W w : World) (v' : Value) : Prop where
  row : TBs w B v' (L ++ [bs])
  blk : Blk w q 36 #[.pointer (some ⟨g, 0, none⟩), .int .i64 S, .int .i64 F, v, .bool false]
  dev : Dev w g b d
  only : Only v.ownBlock.toList W w
  own : v'.ownBlock = v.ownBlock ∨ ∃ k, v'.ownBlock = some k ∧ W.heap.size ≤ k
structure Ap11 (q g b B : Nat) (v : Value) (S F : Nat) (L : List (List Int)) (bs : List Int) (d : DSt) (W w : World) (v' : Value) : Prop where
  row : TBs w B v' (L ++ [bs])
  blk : Blk w q 36 #[.pointer (some ⟨g, 0, none⟩), .int .i64 S, .int .i64 F, v', .bool false]
  dev : Dev w g b d
  only : Only (q :: v.ownBlock.toList) W w
  own : v'.ownBlock = v.ownBlock ∨ ∃ k, v'.ownBlock = some k ∧ W.heap.size ≤ k
structure ApT (q g b B : Nat) (v vb : Value) (S F : Nat) (L : List (List Int)) (bs : List Int) (d : DSt) (W : World) (D : Nat → Bool) (u : Nat → Value) (w : World) : Prop where
  s0 : D 0 = true → u 78 = .pointer (some ⟨q, 0, none⟩)
  s1 : D 1 = true → u 79 = .pointer (some ⟨q, 0, none⟩)
  s2 : D 2 = true → u 80 = .pointer (some ⟨q, 0, none⟩)
  s3 : D 3 = true → u 81 = .pointer (some ⟨q, 3, none⟩)
  s4 : D 4 = true → u 82 = v
  s5 : D 5 = true → u 83 = vb
  s9 : D 9 = true → u 87 = .pointer (some ⟨q, 0, none⟩)
  s10 : D 10 = true → u 88 = .pointer (some ⟨q, 3, none⟩)
  s6 : D 6 = true → D 8 = false → OB w W.heap.size (u 84) bs
  s7 : D 7 = true → D 8 = false → ∃ k y, u 85 = .slice (some ⟨k, 0, none⟩) 1 1 ∧ w.cell? ⟨k, 0, none⟩ = some y ∧ k < w.heap.size ∧ TB w W.heap.size y bs
  p0 : D 8 = false → Below W.heap.size W w
  p8 : D 8 = true → D 11 = false → Ap8 q g b B v S F L bs d W w (u 86)
  p11 : D 11 = true → Ap11 q g b B v S F L bs d W w (u 86)
def apInv (q g b B : Nat) (v vb : Value) (S F : Nat) (L : List (List Int)) (bs : List Int) (d : DSt) (x2 x3 x4 x5 x6 x7 x8 x9 x10 x11 x12 x13 x14 x15 x16 x17 x18 x19 x20 x21 x22 x23 x24 x25 x26 x27 x28 x29 x30 x31 x32 x33 x34 x35 x36 x37 x38 x39 x40 x41 x42 x43 x44 x45 x46 x47 x48 x49 x50 x51 x52 x53 x54 x55 x56 x57 x58 x59 x60 x61 x62 x63 x64 x65 x66 x67 x68 x69 x70 x71 x72 x73 x74 x75 x76 x77 x89 x90 x91 x92 x93 x94 x95 x96 x97 : Value) (W : World) (D : Nat → Bool) (a : Act) (w : World) : Prop :=
  ∃ u, a = apAct q vb x2 x3 x4 x5 x6 x7 x8 x9 x10 x11 x12 x13 x14 x15 x16 x17 x18 x19 x20 x21 x22 x23 x24 x25 x26 x27 x28 x29 x30 x31 x32 x33 x34 x35 x36 x37 x38 x39 x40 x41 x42 x43 x44 x45 x46 x47 x48 x49 x50 x51 x52 x53 x54 x55 x56 x57 x58 x59 x60 x61 x62 x63 x64 x65 x66 x67 x68 x69 x70 x71 x72 x73 x74 x75 x76 x77 x89 x90 x91 x92 x93 x94 x95 x96 x97 u ∧ ApT q g b B v vb S F L bs d W D u w

set_option maxRecDepth 100000 in
set_option maxHeartbeats 4000000 in
theorem append_go (w : World) (q g b B : Nat) (v : Value) (s : LSt) (d : DSt) (vb : Value) (bs : List Int) (h : Lg w q g b B v s d) (hB : IsB bs) (ht : Tabs w) (hs : Sl w vb (bs.map (Value.int .u8))) (hsf : ∀ w', Only (q :: g :: b :: v.ownBlock.toList) w w' → Sl w' vb (bs.map (Value.int .u8)))
    (h1 : 1 ≤ bs.length) (h2 : bs.length ≤ 4000) (h3 : s.stop = false) (h4 : s.fin + (laidI ((s.l.length : Int) + 1) bs).length ≤ s.secs) :
    Calls Tryd.prog 11 #[.pointer (some ⟨q, 0, none⟩), vb] w fun e w' => AppP w w' q g b B v (appD s d bs) e := by
  have HN := Lib.hid (lnone_any w q g (h.blk.cell 0))
  obtain ⟨va, vc, rfl⟩ := h.val
  have HL := Lib.hid h
  have HSF := Lib.hid hsf
  clear hsf
  obtain ⟨ba, bc, rfl, hbc, hbm⟩ := hs.shape
  rw [List.length_map] at *
  have c4 : w.cell? ⟨q, 4, none⟩ = some (.bool false) := by rw [← h3]; exact h.blk.cell 4
  have h1I : ¬ ((bs.length : Int) < 1) := by omega
  have h2I : ¬ ((4000 : Int) < (bs.length : Int)) := by omega
  have h12 : ¬ (bs.length < 1 ∨ 4000 < bs.length) := by omega
  have HA := Lib.hid (show appD s d bs = if (layD ((s.l.length : Int) + 1) bs s.fin d).2 = 0 then ⟨⟨s.secs, s.fin + (laidI ((s.l.length : Int) + 1) bs).length, s.l ++ [bs], false⟩, (layD ((s.l.length : Int) + 1) bs s.fin d).1, 0⟩
      else ⟨⟨s.secs, s.fin, s.l, true⟩, (layD ((s.l.length : Int) + 1) bs s.fin d).1, (layD ((s.l.length : Int) + 1) bs s.fin d).2⟩ from by
    unfold appD; rw [if_neg h12, if_neg (by rw [h3]; decide), if_neg (by omega)])
  have hS : s.secs ≤ 16384 := by have := h.dev.pos.2; have := h.secs; omega
  have hF := h.fin
  have hC : s.l.length ≤ 16384 := by have := h.cnt; omega
  have hw1 : IntKind.i64.wrap ((s.l.length : Int) + 1) = (s.l.length : Int) + 1 := by rw [IntKind.wrap_i64]; omega
  have HLD := Lib.hid (laid_any ((s.l.length : Int) + 1) (.slice ba bs.length bc) bs w (by omega) (by omega) (by omega) hB ht hs)
  have c3 : w.cell? ⟨q, 3, none⟩ = some (.slice va s.l.length vc) := h.blk.cell 3
  have HLL := Lib.hid (laidI_len ((s.l.length : Int) + 1) bs)
  have HTL := Lib.hid (textS_len ((s.l.length : Int) + 1) bs)
  have HTK := Lib.hid (textT_take ((s.l.length : Int) + 1) bs)
  have HM1 := Lib.hid (mark_one ((s.l.length : Int) + 1) bs)
  have HIB := Lib.hid (laidI_isB ((s.l.length : Int) + 1) hB)
  have H64 := Lib.hid (laidI_64 ((s.l.length : Int) + 1) bs)
  have HLAY := Lib.hid (show layD ((s.l.length : Int) + 1) bs s.fin d = if (putW (textS ((s.l.length : Int) + 1) bs) s.fin d).2 = 0 then putW (cut64 (markB ((s.l.length : Int) + 1) (textS ((s.l.length : Int) + 1) bs))) (s.fin + (textS ((s.l.length : Int) + 1) bs).length) (putW (textS ((s.l.length : Int) + 1) bs) s.fin d).1 else putW (textS ((s.l.length : Int) + 1) bs) s.fin d from rfl)
  have HLN := Lib.hid (layD_len ((s.l.length : Int) + 1) bs s.fin d)
  have HBB := Lib.hid hB
  have H12 := Lib.hid (And.intro h1 h2)
  rw [HM1.out] at HLAY
  have H3 := Lib.hid h3
  clear h hs h12 h3 ht hB h1 h2 HM1
  go_enter Tryd.func11, Tryd.ntmps11
  go_wp2_with fail
  refine HN.out.mono ?_
  rintro e w1 ⟨rfl, rfl⟩
  go_wp2_with fail
  refine HLD.out.mono ?_
  rintro e w2 ⟨x, rfl, hx, hb2⟩
  obtain ⟨xa, xc, rfl⟩ := hx.val
  have HB2 := Lib.hid hb2
  generalize textS ((s.l.length : Int) + 1) bs = TX at *
  generalize laidI ((s.l.length : Int) + 1) bs = LS at *
  obtain ⟨T, hT⟩ : ∃ T, TX.length = T := ⟨_, rfl⟩
  rw [hT] at HTL HTK HLAY
  have hML : LS.length = T + 1 := by rw [HLL.out, HTL.out]
  rw [hML] at h4 HA ⊢
  have HX := Lib.hid (hx.tbs (fun p hp => by rw [H64.out p hp]; omega))
  have hxr := HX.out.tbr (by omega)
  obtain ⟨xb, xo, xc', us, e, hxl, hxm, _⟩ := id hxr
  cases e
  rw [hML] at hxr hxl
  unfold maxLen at hxm
  have hTxc : (T : Int) ≤ (xc : Int) := by omega
  have hT0 : (0 : Int) ≤ (T : Int) := by omega
  have hxcm : (xc : Int) ≤ 9223372036854775807 := by omega
  have HXR := Lib.hid hxr
  have hTb : T ≤ 64 := by rw [HTL.out]; have := H12.out.2; omega
  have hT1 : 1 ≤ T := by rw [HTL.out]; omega
  have HHT := Lib.hid hT
  have HML := Lib.hid hML
  have HL2 := Lib.hid (HL.out.below hb2)
  clear hx hb2 HLD hT hxr hML
  have c1 : w2.cell? ⟨q, 1, none⟩ = some (.int .i64 s.secs) := HL2.out.blk.cell 1
  have c2 : w2.cell? ⟨q, 2, none⟩ = some (.int .i64 s.fin) := HL2.out.blk.cell 2
  have h4I : ¬ ((s.secs : Int) - (s.fin : Int) < (T : Int) + 1) := by omega
  have hwS : IntKind.i64.wrap ((s.secs : Int) - (s.fin : Int)) = (s.secs : Int) - (s.fin : Int) := by rw [IntKind.wrap_i64]; omega
  go_upto_region 9 with (fail)
  go_quiet (fail)
  have HB3 := Lib.hid (below_drewN0 HB2.out nq)
  have HL3 := Lib.hid (HL2.out.below (below_drewN0 (Below.refl _ _) nq))
  have HX3 := Lib.hid (HX.out.below (below_drewN0 (Below.refl _ _) nq))
  have HXR3 := Lib.hid (HXR.out.below (below_drewN0 (Below.refl _ _) nq))
  clear c1 c2 HB2 HL2 HX HXR hwS h4I c3 c4
  generalize w2.drewN nq = w3 at *
  have c2 : w3.cell? ⟨q, 2, none⟩ = some (.int .i64 s.fin) := HL3.out.blk.cell 2
  have hq3 : q < w3.heap.size := HL3.out.blk.lt
  have HG := Lib.hid (fun w' (hb : Below w3.heap.size w3 w') => (hb.cell (p := ⟨q, 2, none⟩) hq3).trans c2)
  have HTX := Lib.hid (HXR3.out.take T (by rw [HML.out]; omega))
  rw [HTK.out] at HTX
  have HPT := Lib.hid (fun w' (hb : Below w3.heap.size w3 w') => put_any w' q g b d s.fin _ TX ((HL3.out.below hb).blk.cell 0) (HL3.out.below hb).blk.lt HL3.out.apart (HL3.out.below hb).dev (HTX.out.below hb) (fun p hp => HIB.out p (List.mem_of_mem_take (i := T) (by rw [HTK.out]; exact hp))) (by rw [HHT.out]; omega))
  go_upto_region 11 with (fail)
  go_region_held3 (fun w' => w'.cell? ⟨q, 2, none⟩ = some (.int .i64 s.fin)) (first | exact hG4.out | exact HG.out _ (by first | exact Below.refl _ _ | exact (Below.refl _ _).drew)) (first | (go_at_call 36; refine (HPT.out _ (by first | exact Below.refl _ _ | exact (Below.refl _ _).drew)).mono ?_; rintro e w4 ⟨rfl, hD4, hO4⟩; have hO4 : Only [g, b] w3 w4 := ⟨hO4.os, hO4.tape, hO4.output, hO4.size, hO4.block⟩; have hG4 := Lib.hid (show w4.cell? ⟨q, 2, none⟩ = some (.int .i64 s.fin) from (hO4.cell (p := ⟨q, 2, none⟩) hq3 (by simp; exact HL3.out.apart)).trans c2)))
  have HL4 := Lib.hid (HL3.out.devOnly hO4 hD4 (putW_len _ _ _))
  have HX4 := Lib.hid (HXR3.out.only hO4 HL3.out.dev.noText)
  have HO4 := Lib.hid (show Only (q :: g :: b :: (Value.slice va s.l.length vc).ownBlock.toList) w w4 from (Only.of_below _ HB3.out).trans (hO4.mono (by intro k hk; simp at hk; rcases hk with rfl | rfl <;> simp)))
  clear hO4 hD4 HPT HXR3 HG c2 hG4 HL3
  by_cases he : (putW TX s.fin d).2 = 0
  · rw [if_pos he] at HLAY
    have c24 : w4.cell? ⟨q, 2, none⟩ = some (.int .i64 s.fin) := HL4.out.blk.cell 2
    obtain ⟨u, hcu, htu⟩ := HX4.out.at (k := T) (p := LS.getD T []) (by rw [List.getD_eq_getElem?_getD, List.getElem?_eq_getElem (by rw [HML.out]; omega)]; rfl)
    obtain ⟨ua, uo, uc, e, _⟩ := id htu
    subst e
    have hbA : Below w4.heap.size w4 (w4.alloc (.cells #[.slice (some ⟨ua, uo, none⟩) (LS.getD T []).length uc] 26)) := (Below.refl _ _).alloc (Nat.le_refl _) _
    have HTL2 := Lib.hid (TBr.lit htu rfl)
    have HIM := Lib.hid (HIB.out (LS.getD T []) (getD_mem (by rw [HML.out]; omega)))
    generalize LS.getD T [] = MK at *
    have HNB := Lib.hid (show xb ∉ [g, b] from fun hm => by
      obtain ⟨b1, o1, c1, us1, e1, _, _, ⟨cur, k1⟩, _⟩ := HX4.out
      injection e1 with e1
      injection e1 with e1
      injection e1 with e1
      rw [e1] at hm
      exact (HL4.out.dev.noText _ hm cur).2 k1)
    have HBLs := Lib.hid (fun w' (hb : Below w4.heap.size w4 w') => And.intro ((hb.cell (p := ⟨q, 2, none⟩) HL4.out.blk.lt).trans c24) ((hb.cell (p := ⟨xb, xo + T, none⟩) HX4.out.lt).trans hcu))
    have HP2 := Lib.hid (fun w' (hb : Below (w4.alloc (.cells #[.slice (some ⟨ua, uo, none⟩) MK.length uc] 26)).heap.size (w4.alloc (.cells #[.slice (some ⟨ua, uo, none⟩) MK.length uc] 26)) w') =>
      put_any w' q g b (putW TX s.fin d).1 (s.fin + T) (.slice (some ⟨w4.heap.size, 0, none⟩) 1 1) [MK] (((HL4.out.below hbA).below hb).blk.cell 0) ((HL4.out.below hbA).below hb).blk.lt HL4.out.apart ((HL4.out.below hbA).below hb).dev (HTL2.out.below hb) (fun p hp => by rw [List.mem_singleton.1 hp]; exact HIM.out) (by simp; omega))
    rw [Int.natCast_add] at HP2
    have HL5 := Lib.hid (fun w' (hb : Below w4.heap.size w4 w') (w5 : World) (ho : Only [g, b] w' w5) (hd : Dev w5 g b (putW [MK] (s.fin + T) (putW TX s.fin d).1).1) => And.intro (And.intro ((HL4.out.below hb).devOnly ho hd (putW_len _ _ _)) (HO4.out.trans ((Only.of_below _ hb).trans (ho.mono (cs := q :: g :: b :: (Value.slice va s.l.length vc).ownBlock.toList) (by intro k hk; simp at hk; rcases hk with rfl | rfl <;> simp))))) ((ho.cell (p := ⟨xb, xo + T, none⟩) (Nat.lt_of_lt_of_le HX4.out.lt hb.size) HNB.out).trans ((hb.cell (p := ⟨xb, xo + T, none⟩) HX4.out.lt).trans hcu)))
    have hw2 : IntKind.i64.wrap ((s.fin : Int) + (T : Int)) = (s.fin : Int) + (T : Int) := by rw [IntKind.wrap_i64]; omega
    have hTi : (T : Int) < (T : Int) + 1 := by omega
    clear hbA htu HTL2 c24 hcu
    rw [he]
    go_upto_region 13 with (fail)
    go_region_held3 (fun w' => w'.cell? ⟨q, 2, none⟩ = some (.int .i64 s.fin) ∧ w'.cell? ⟨xb, xo + T, none⟩ = some (.slice (some ⟨ua, uo, none⟩) MK.length uc)) (first | exact hG5.out | exact HBLs.out _ (by first | exact Below.refl _ _ | exact (Below.refl _ _).drew | exact (Below.refl _ _).alloc (Nat.le_refl _) _ | exact ((Below.refl _ _).alloc (Nat.le_refl _) _).drew | exact ((Below.refl _ _).drew).alloc (Nat.le_refl _) _)) (first | (go_at_call 36; refine (HP2.out _ (by first | exact Below.refl _ _ | exact (Below.refl _ _).drew)).mono ?_; rintro e w5 ⟨rfl, hD5, hO5⟩; have HLO := Lib.hid (HL5.out _ (by first | exact Below.refl _ _ | exact (Below.refl _ _).drew | exact (Below.refl _ _).alloc (Nat.le_refl _) _ | exact ((Below.refl _ _).alloc (Nat.le_refl _) _).drew | exact ((Below.refl _ _).drew).alloc (Nat.le_refl _) _) w5 hO5 hD5); have hG5 := Lib.hid (And.intro (show w5.cell? ⟨q, 2, none⟩ = some (.int .i64 s.fin) from HLO.out.1.1.blk.cell 2) HLO.out.2)))
    have HL6 := Lib.hid HLO.out.1.1
    have HO6 := Lib.hid HLO.out.1.2
    clear hO5 hD5 hG5 HLO HBLs HP2 HL5 HX4 HNB
    have HA2 := HA
    rw [HLAY.out] at HA2
    by_cases he2 : (putW [MK] (s.fin + T) (putW TX s.fin d).1).2 = 0
    · rw [if_pos he2] at HA2
      rw [he2]
      go_upto_region 17 with (fail)
      have HKW := Lib.hid (show Blk w5 q 36 #[.pointer (some ⟨g, 0, none⟩), .int .i64 s.secs, .int .i64 s.fin, .slice va s.l.length vc, .bool false] from by have k := HL6.out.blk; rw [H3.out] at k; exact k)
      have HRW := Lib.hid HL6.out.row
      have HDW := Lib.hid HL6.out.dev
      have HAP := Lib.hid HL6.out.apart
      have HBW := Lib.hid HL6.out.base
      have HLNN := Lib.hid (show s.l.length + 1 ≤ 5000000000000 by omega)
      have HBN := Lib.hid (show bs.length ≤ 140737488351232 by have := H12.out.2; omega)
      have HBP := Lib.hid (show 0 < bs.length from H12.out.1)
      have HBS := Lib.hid (show ∀ w', Below w5.heap.size w5 w' → Sl w' (.slice ba bs.length bc) (bs.map (Value.int .u8)) from fun w' hb => (HSF.out w5 HO6.out).below hb (Nat.le_refl _))
      generalize (putW [MK] (s.fin + T) (putW TX s.fin d).1).1 = d2 at *
      generalize hSS : s.secs = S at *
      generalize hFF : s.fin = F at *
      generalize hLL : s.l = L at *
      have HSFL := Lib.hid (And.intro hSS (And.intro hFF hLL))
      clear hSS hFF hLL
      refine wp_region_inv2 (apInv q g b B (.slice va L.length vc) (.slice ba bs.length bc) S F L bs d2 (undef) (undef) (.int .i64 0) (.slice (some ⟨xb, xo, none⟩) (T + 1) xc) (.int .i64 (T : Int)) (.int .i64 0) (.bool false) (.pointer (some ⟨q, 0, none⟩)) (.bool false) (.bool (decide ((bs.length : Int) < 1) || decide (4000 < (bs.length : Int)))) (.slice ba bs.length bc) (.int .i64 (bs.length : Int)) (.bool (decide ((bs.length : Int) < 1))) (.bool (decide ((bs.length : Int) < 1))) (.slice ba bs.length bc) (.int .i64 (bs.length : Int)) (.bool (decide (4000 < (bs.length : Int)))) (.bool (decide ((bs.length : Int) < 1) || decide (4000 < (bs.length : Int)))) (.bool false) (.pointer (some ⟨q, 0, none⟩)) (.pointer (some ⟨q, 0, none⟩)) (.pointer (some ⟨q, 4, none⟩)) (.bool false) (.pointer (some ⟨q, 0, none⟩)) (.pointer (some ⟨q, 0, none⟩)) (.pointer (some ⟨q, 3, none⟩)) (.slice va L.length vc) (.int .i64 (L.length : Int)) (.int .i64 ((L.length : Int) + 1)) (.slice ba bs.length bc) (.slice (some ⟨xb, xo, none⟩) (T + 1) xc) (.slice (some ⟨xb, xo, none⟩) (T + 1) xc) (.int .i64 ((T : Int) + 1)) (.int .i64 (T : Int)) (.slice (some ⟨xb, xo, none⟩) (T + 1) xc) (.int .i64 ((T : Int) + 1)) (.pointer (some ⟨q, 0, none⟩)) (.pointer (some ⟨q, 0, none⟩)) (.pointer (some ⟨q, 1, none⟩)) (.int .i64 (S : Int)) (.pointer (some ⟨q, 0, none⟩)) (.pointer (some ⟨q, 0, none⟩)) (.pointer (some ⟨q, 2, none⟩)) (.int .i64 (F : Int)) (.int .i64 ((S : Int) - (F : Int))) (.bool (decide ((S : Int) - (F : Int) < (T : Int) + 1))) (.pointer (some ⟨q, 0, none⟩)) (.pointer (some ⟨q, 0, none⟩)) (.pointer (some ⟨q, 0, none⟩)) (.pointer (some ⟨q, 2, none⟩)) (.int .i64 (F : Int)) (.slice (some ⟨xb, xo, none⟩) (T + 1) xc) (.int .i64 (T : Int)) (.slice (some ⟨xb, xo, none⟩) T xc) (.int .i64 0) (.int .i64 0) (.bool true) (.pointer (some ⟨q, 0, none⟩)) (.pointer (some ⟨q, 0, none⟩)) (.pointer (some ⟨q, 0, none⟩)) (.pointer (some ⟨q, 2, none⟩)) (.int .i64 (F : Int)) (.int .i64 (T : Int)) (.int .i64 ((F : Int) + (T : Int))) (.slice (some ⟨xb, xo, none⟩) (T + 1) xc) (.int .i64 (T : Int)) (.pointer (some ⟨xb, xo + T, none⟩)) (.slice (some ⟨ua, uo, none⟩) MK.length uc) (.slice (some ⟨w4.heap.size, 0, none⟩) 1 1) (.int .i64 0) (.int .i64 0) (.bool false) (undef) (undef) (undef) (undef) (undef) (undef) (undef) (undef) (undef) (undef) (undef) (undef) (undef) w5) (by kernel_rfl) (by kernel_rfl) ?start ?step ?fin
      case start => exact ⟨fun _ => undef, rfl, ⟨(fun q => by cases q), (fun q => by cases q), (fun q => by cases q), (fun q => by cases q), (fun q => by cases q), (fun q => by cases q), (fun q => by cases q), (fun q => by cases q), (fun q => by cases q), (fun q => by cases q), (fun _ => (Below.refl _ _).drew), (fun q => by cases q), (fun q => by cases q)⟩⟩
      case step =>
        intro D a w i hi hI hD hcl hn
        obtain ⟨u, rfl, hX⟩ := hI
        have hi' : i < 12 := hi
        clear hi
        rcases (show i = 0 ∨ i = 1 ∨ i = 2 ∨ i = 3 ∨ i = 4 ∨ i = 5 ∨ i = 6 ∨ i = 7 ∨ i = 8 ∨ i = 9 ∨ i = 10 ∨ i = 11 from by omega) with rfl | rfl | rfl | rfl | rfl | rfl | rfl | rfl | rfl | rfl | rfl | rfl
        · refine wpOp_plain rfl rfl ?_
          go_simp
          exact ⟨upd u 78 (.pointer (some ⟨q, 0, none⟩)), rfl, ⟨fun _ => rfl, fun h => hX.s1 h, fun h => hX.s2 h, fun h => hX.s3 h, fun h => hX.s4 h, fun h => hX.s5 h, fun h => hX.s9 h, fun h => hX.s10 h, fun h => hX.s6 h, fun h => hX.s7 h, fun h => hX.p0 h, fun h => hX.p8 h, fun h => hX.p11 h⟩⟩
        · refine wpOp_plain rfl rfl ?_
          go_simp
          exact ⟨upd u 79 (.pointer (some ⟨q, 0, none⟩)), rfl, ⟨fun h => hX.s0 h, fun _ => rfl, fun h => hX.s2 h, fun h => hX.s3 h, fun h => hX.s4 h, fun h => hX.s5 h, fun h => hX.s9 h, fun h => hX.s10 h, fun h => hX.s6 h, fun h => hX.s7 h, fun h => hX.p0 h, fun h => hX.p8 h, fun h => hX.p11 h⟩⟩
        · have d1 : D 1 = true := hn 1 (needs_sg (by kernel_rfl))
          have e79 := hX.s1 d1
          refine wpOp_plain rfl rfl ?_
          go_simp
          exact ⟨upd u 80 (.pointer (some ⟨q, 0, none⟩)), by first | rfl | simp [upd, e79], ⟨fun h => hX.s0 h, fun h => hX.s1 h, fun _ => rfl, fun h => hX.s3 h, fun h => hX.s4 h, fun h => hX.s5 h, fun h => hX.s9 h, fun h => hX.s10 h, fun h => hX.s6 h, fun h => hX.s7 h, fun h => hX.p0 h, fun h => hX.p8 h, fun h => hX.p11 h⟩⟩
        · have d2 : D 2 = true := hn 2 (needs_sg (by kernel_rfl))
          have e80 := hX.s2 d2
          refine wpOp_plain rfl rfl ?_
          go_simp
          exact ⟨upd u 81 (.pointer (some ⟨q, 3, none⟩)), by first | rfl | simp [upd, e80], ⟨fun h => hX.s0 h, fun h => hX.s1 h, fun h => hX.s2 h, fun _ => rfl, fun h => hX.s4 h, fun h => hX.s5 h, fun h => hX.s9 h, fun h => hX.s10 h, fun h => hX.s6 h, fun h => hX.s7 h, fun h => hX.p0 h, fun h => hX.p8 h, fun h => hX.p11 h⟩⟩
        · have d3 : D 3 = true := hn 3 (needs_sg (by kernel_rfl))
          have e81 := hX.s3 d3
          have g8 : D 8 = false := by
            cases q8 : D 8 with
            | false => rfl
            | true => have := hcl 8 4 q8 (needs_sg (by kernel_rfl)); rw [hD] at this; cases this
          have c0 : w.cell? ⟨q, 3, none⟩ = some (Value.slice va L.length vc) := ((hX.p0 g8).cell (p := ⟨q, 3, none⟩) HKW.out.lt).trans (HKW.out.cell 3)
          refine wpOp_plain rfl rfl ?_
          go_simp
          exact ⟨upd u 82 (Value.slice va L.length vc), by first | rfl | simp [upd, e81], ⟨fun h => hX.s0 h, fun h => hX.s1 h, fun h => hX.s2 h, fun h => hX.s3 h, fun _ => rfl, fun h => hX.s5 h, fun h => hX.s9 h, fun h => hX.s10 h, fun h => hX.s6 h, fun h => hX.s7 h, fun h => hX.p0 h, fun h => hX.p8 h, fun h => hX.p11 h⟩⟩
        · refine wpOp_plain rfl rfl ?_
          go_simp
          exact ⟨upd u 83 (Value.slice ba bs.length bc), rfl, ⟨fun h => hX.s0 h, fun h => hX.s1 h, fun h => hX.s2 h, fun h => hX.s3 h, fun h => hX.s4 h, fun _ => rfl, fun h => hX.s9 h, fun h => hX.s10 h, fun h => hX.s6 h, fun h => hX.s7 h, fun h => hX.p0 h, fun h => hX.p8 h, fun h => hX.p11 h⟩⟩
        · have d5 : D 5 = true := hn 5 (needs_sg (by kernel_rfl))
          have e83 := hX.s5 d5
          have g7 : D 7 = false := by
            cases q7 : D 7 with
            | false => rfl
            | true => have := hcl 7 6 q7 (needs_sg (by kernel_rfl)); rw [hD] at this; cases this
          have g8 : D 8 = false := by
            cases q8 : D 8 with
            | false => rfl
            | true => have := hcl 8 7 q8 (needs_sg (by kernel_rfl)); rw [g7] at this; cases this
          have g11 : D 11 = false := by
            cases q8 : D 11 with
            | false => rfl
            | true => have := hcl 11 8 q8 (needs_sg (by kernel_rfl)); rw [g8] at this; cases this
          have hb := hX.p0 g8
          refine wpOp_plain rfl rfl ?_
          go_simp
          go_at_call 37
          refine (sclone_own _ bs w HBN.out (HBS.out w hb)).mono ?_
          rintro e w3 ⟨x, rfl, hx, hb3⟩
          have hb4 := below_trans2 hb hb3
          exact ⟨upd u 84 x, by first | rfl | simp [upd, e83], ⟨fun h => hX.s0 h, fun h => hX.s1 h, fun h => hX.s2 h, fun h => hX.s3 h, fun h => hX.s4 h, fun h => hX.s5 h, fun h => hX.s9 h, fun h => hX.s10 h, fun _ _ => hx.base hb.size, (fun h => by rw [show D1 D 6 7 = D 7 from rfl, g7] at h; cases h), fun _ => hb4, (fun h => by rw [show D1 D 6 8 = D 8 from rfl, g8] at h; cases h), (fun h => by rw [show D1 D 6 11 = D 11 from rfl, g11] at h; cases h)⟩⟩
        · have d6 : D 6 = true := hn 6 (needs_sg (by kernel_rfl))
          have g8 : D 8 = false := by
            cases q8 : D 8 with
            | false => rfl
            | true => have := hcl 8 7 q8 (needs_sg (by kernel_rfl)); rw [hD] at this; cases this
          have g11 : D 11 = false := by
            cases q8 : D 11 with
            | false => rfl
            | true => have := hcl 11 8 q8 (needs_sg (by kernel_rfl)); rw [g8] at this; cases this
          have hb := hX.p0 g8
          have ho := hX.s6 d6 g8
          obtain ⟨a4, n4, c4, e84⟩ := ho.sl.val
          have hb2 : Below w.heap.size w (w.alloc (.cells #[.slice a4 n4 c4] 26)) := (Below.refl _ _).alloc (Nat.le_refl _) _
          have htb : TB (w.alloc (.cells #[.slice a4 n4 c4] 26)) w5.heap.size (.slice a4 n4 c4) bs := by
            have h9 := (TB.ofOB ho HBP.out).below hb2
            rw [e84] at h9
            exact h9
          refine wpOp_plain rfl rfl ?_
          go_simp
          exact ⟨upd u 85 (.slice (some ⟨w.heap.size, 0, none⟩) 1 1), by simp [upd, e84], ⟨fun h => hX.s0 h, fun h => hX.s1 h, fun h => hX.s2 h, fun h => hX.s3 h, fun h => hX.s4 h, fun h => hX.s5 h, fun h => hX.s9 h, fun h => hX.s10 h, fun h g => (hX.s6 h g).below hb2, fun _ _ => ⟨w.heap.size, _, rfl, (Blk.new w 26 #[.slice a4 n4 c4]).cell 0, (Blk.new w 26 #[.slice a4 n4 c4]).lt, htb⟩, fun _ => below_trans2 hb hb2, (fun h => by rw [show D1 D 7 8 = D 8 from rfl, g8] at h; cases h), (fun h => by rw [show D1 D 7 11 = D 11 from rfl, g11] at h; cases h)⟩⟩
        · have d4 : D 4 = true := hn 4 (needs_sg (by kernel_rfl))
          have d7 : D 7 = true := hn 7 (needs_sg (by kernel_rfl))
          have g11 : D 11 = false := by
            cases q8 : D 11 with
            | false => rfl
            | true => have := hcl 11 8 q8 (needs_sg (by kernel_rfl)); rw [hD] at this; cases this
          have hb := hX.p0 hD
          have e82 := hX.s4 d4
          obtain ⟨k7, y7, e85, hc7, hl7, ht7⟩ := hX.s7 d7 hD
          have hrw := HRW.out.below hb
          refine wpOp_step rfl rfl (step_append_tb rfl (.tmp 82) (.tmp 85) rfl B (Value.slice va L.length vc) L (by show u 82 = (Value.slice va L.length vc); exact e82) hrw k7 1 (by show u 85 = _; exact e85) y7 hc7 bs (ht7.base HBW.out) HLNN.out (Nat.le_trans HBW.out hb.size) ?_)
          intro v' w' hr hbb hgg hown
          have ho : Only (Value.slice va L.length vc).ownBlock.toList w5 w' := (Only.of_below _ hb).trans ⟨hgg.os, hgg.tape, hgg.output, hgg.size, fun k hk hnk => hgg.block k hk fun e => hnk (by simp [← e])⟩
          have hno : ∀ k ∈ (Value.slice va L.length vc).ownBlock.toList, ∃ cur, Blk w5 k 26 cur := fun k hk => HRW.out.blk (by simpa using hk)
          have hF : Ap8 q g b B (Value.slice va L.length vc) S F L bs d2 w5 w' v' := ⟨hr, ho.blk HKW.out (fun hm => by obtain ⟨cur, kk⟩ := hno q hm; exact Blk.ne_ HKW.out kk (by decide) rfl), HDW.out.only ho (fun hm => by obtain ⟨cur, kk⟩ := hno g hm; obtain ⟨cap, _, _, k1⟩ := HDW.out.blk; exact Blk.ne_ k1 kk (by decide) rfl) (fun hm => by obtain ⟨cur, kk⟩ := hno b hm; obtain ⟨c2, k2⟩ := HDW.out.row.typ; exact Blk.ne_ k2 kk (by decide) rfl), ho, hown.elim Or.inl (fun ⟨k, e1, e2⟩ => .inr ⟨k, e1, Nat.le_trans hb.size e2⟩)⟩
          exact ⟨upd u 86 v', rfl, ⟨fun h => hX.s0 h, fun h => hX.s1 h, fun h => hX.s2 h, fun h => hX.s3 h, fun h => hX.s4 h, fun h => hX.s5 h, fun h => hX.s9 h, fun h => hX.s10 h, (fun _ g => by cases g), (fun _ g => by cases g), (fun h => by cases h), fun _ _ => hF, (fun h => by rw [show D1 D 8 11 = D 11 from rfl, g11] at h; cases h)⟩⟩
        · have d0 : D 0 = true := hn 0 (needs_sg (by kernel_rfl))
          have e78 := hX.s0 d0
          refine wpOp_plain rfl rfl ?_
          go_simp
          exact ⟨upd u 87 (.pointer (some ⟨q, 0, none⟩)), by first | rfl | simp [upd, e78], ⟨fun h => hX.s0 h, fun h => hX.s1 h, fun h => hX.s2 h, fun h => hX.s3 h, fun h => hX.s4 h, fun h => hX.s5 h, fun _ => rfl, fun h => hX.s10 h, fun h => hX.s6 h, fun h => hX.s7 h, fun h => hX.p0 h, fun h => hX.p8 h, fun h => hX.p11 h⟩⟩
        · have d9 : D 9 = true := hn 9 (needs_sg (by kernel_rfl))
          have e87 := hX.s9 d9
          refine wpOp_plain rfl rfl ?_
          go_simp
          exact ⟨upd u 88 (.pointer (some ⟨q, 3, none⟩)), by first | rfl | simp [upd, e87], ⟨fun h => hX.s0 h, fun h => hX.s1 h, fun h => hX.s2 h, fun h => hX.s3 h, fun h => hX.s4 h, fun h => hX.s5 h, fun h => hX.s9 h, fun _ => rfl, fun h => hX.s6 h, fun h => hX.s7 h, fun h => hX.p0 h, fun h => hX.p8 h, fun h => hX.p11 h⟩⟩
        · have d8 : D 8 = true := hn 8 (needs_sg (by kernel_rfl))
          have d10 : D 10 = true := hn 10 (needs_sg (by kernel_rfl))
          have hF := hX.p8 d8 hD
          have e88 := hX.s10 d10
          obtain ⟨ra, rc, e86⟩ := hF.row.val
          obtain ⟨rn, hrn⟩ : ∃ rn, (L ++ [bs]).length = rn := ⟨_, rfl⟩
          rw [hrn] at e86
          have c0 : w.cell? ⟨q, 3, none⟩ = some (Value.slice va L.length vc) := hF.blk.cell 3
          have f0 := hF.blk.frozen 3
          have hkb := hF.blk.set_ 3 (u 86)
          have hnq : ∀ k ∈ [q], ∀ cur, ¬ Blk w k 5 cur := fun k hk cur e => by
            obtain rfl : k = q := by simpa using hk
            exact Blk.ne_ e hF.blk (by decide) rfl
          have ho : Only [q] w (w.setCell ⟨q, 3, none⟩ (u 86)) := Only.setCell _ _ (by simp) _
          have hG : Ap11 q g b B (Value.slice va L.length vc) S F L bs d2 w5 (w.setCell ⟨q, 3, none⟩ (u 86)) (u 86) := ⟨hF.row.only ho hnq (fun k hk hm => by obtain rfl : k = q := (by simpa using hm); obtain ⟨cur, kk⟩ := hF.row.blk hk; exact Blk.ne_ kk hF.blk (by decide) rfl), hkb, hF.dev.only ho (by simp; exact fun e => HAP.out.1 e.symm) (by simp; exact fun e => HAP.out.2 e.symm), (hF.only.mono (by intro k hk; simp [hk])).trans (ho.mono (by intro k hk; simp at hk; simp [hk])), hF.own⟩
          rw [e86] at hG
          refine wpOp_plain rfl rfl ?_
          go_simp
          exact ⟨u, by first | rfl | simp [e86, e88], ⟨fun h => hX.s0 h, fun h => hX.s1 h, fun h => hX.s2 h, fun h => hX.s3 h, fun h => hX.s4 h, fun h => hX.s5 h, fun h => hX.s9 h, fun h => hX.s10 h, (fun h g => by rw [show D1 D 11 8 = D 8 from rfl, d8] at g; cases g), (fun h g => by rw [show D1 D 11 8 = D 8 from rfl, d8] at g; cases g), (fun h => by rw [show D1 D 11 8 = D 8 from rfl, d8] at h; cases h), (fun _ h => by cases h), (fun _ => by rw [e86]; exact hG)⟩⟩
      case fin =>
        intro D a w7 hI hall
        obtain ⟨u, rfl, hX⟩ := hI
        have hG := hX.p11 (hall 11 (by decide))
        have c27 : w7.cell? ⟨q, 2, none⟩ = some (.int .i64 F) := hG.blk.cell 2
        have f27 := hG.blk.frozen 2
        have hk7 := hG.blk.set_ 2 (.int .i64 ((F : Int) + ((T : Int) + 1)))
        have hw7 : IntKind.i64.wrap ((F : Int) + ((T : Int) + 1)) = (F : Int) + ((T : Int) + 1) := by rw [IntKind.wrap_i64]; omega
        have ho7 : Only [q] w7 (w7.setCell ⟨q, 2, none⟩ (.int .i64 ((F : Int) + ((T : Int) + 1)))) := Only.setCell _ _ (by simp) _
        have hn7 : ∀ k ∈ [q], ∀ cur, ¬ Blk w7 k 5 cur := fun k hk cur e => by
          obtain rfl : k = q := by simpa using hk
          exact Blk.ne_ e hG.blk (by decide) rfl
        have hr7 := hG.row.only ho7 hn7 (fun k hk1 hm => by
          have hkq : k = q := by simpa using hm
          obtain ⟨cur, kk⟩ := hG.row.blk hk1
          rw [hkq] at kk
          exact Blk.ne_ kk hG.blk (by decide) rfl)
        have hd7 := hG.dev.only ho7 (by simp; exact fun e => HAP.out.1 e.symm) (by simp; exact fun e => HAP.out.2 e.symm)
        have HFIN := Lib.hid (show Lg (w7.setCell ⟨q, 2, none⟩ (.int .i64 ((F : Int) + ((T : Int) + 1)))) q g b B (u 86) ⟨S, F + (T + 1), L ++ [bs], false⟩ d2 from
          ⟨by rw [show ((F + (T + 1) : Nat) : Int) = (F : Int) + ((T : Int) + 1) from by omega]; exact hk7, hr7, hd7, by rw [← HSFL.out.1]; exact HL6.out.secs, h4, by have h9 := HL6.out.cnt; rw [HSFL.out.2.2, HSFL.out.2.1] at h9; show (L ++ [bs]).length ≤ F + (T + 1); rw [List.length_append, List.length_singleton]; omega, fun p hp => by
            rcases List.mem_append.1 hp with h1 | h1
            · exact HL6.out.isB p (by rw [HSFL.out.2.2]; exact h1)
            · rw [List.mem_singleton.1 h1]; exact HBB.out, fun p hp => by
            rcases List.mem_append.1 hp with h1 | h1
            · exact HL6.out.short p (by rw [HSFL.out.2.2]; exact h1)
            · rw [List.mem_singleton.1 h1]; exact H12.out, Nat.le_trans HBW.out (Nat.le_trans hG.only.size ho7.size)⟩)
        have HOF := Lib.hid (HO6.out.trans ((hG.only.mono (cs := q :: g :: b :: (Value.slice va L.length vc).ownBlock.toList) (by intro k hk; simp at hk; rcases hk with rfl | hk <;> simp [*])).trans (ho7.mono (by intro k hk; simp at hk; simp [hk]))))
        have HOW := Lib.hid (show (u 86).ownBlock = (Value.slice va L.length vc).ownBlock ∨ ∃ k, (u 86).ownBlock = some k ∧ w.heap.size ≤ k from hG.own.elim Or.inl (fun ⟨k, e1, e2⟩ => .inr ⟨k, e1, Nat.le_trans HO6.out.size e2⟩))
        have HCL := Lib.hid hC
        clear hG hX hall hk7 ho7 hn7 hr7 hd7
        go_wp2
        go_ret
        exact ⟨_, by rw [HA2.out]; rfl, by rw [HA2.out]; exact HFIN.out, by rw [HSFL.out.2.2]; exact HOW.out, by rw [HSFL.out.2.2]; exact HOF.out⟩
    · rw [if_neg he2] at HA2
      have heb2 : ((putW [MK] (s.fin + T) (putW TX s.fin d).1).2 == 0) = false := by rw [beq_eq_false_iff_ne]; exact he2
      have c44 : w5.cell? ⟨q, 4, none⟩ = some (.bool s.stop) := HL6.out.blk.cell 4
      have f44 := HL6.out.blk.frozen 4
      have HH := Lib.hid (HL6.out.halt)
      have HOO := Lib.hid (HO6.out.trans ((Only.setCell [q] w5 (p := ⟨q, 4, none⟩) (by simp) (.bool true)).mono (cs := q :: g :: b :: (Value.slice va s.l.length vc).ownBlock.toList) (by intro k hk; simp at hk; simp [hk])))
      clear he2
      generalize (putW [MK] (s.fin + T) (putW TX s.fin d).1).2 = er at *
      go_wp2
      go_ret
      exact ⟨_, by rw [HA2.out]; rfl, by rw [HA2.out]; exact HH.out, .inl rfl, HOO.out⟩
  · rw [if_neg he] at HLAY
    have heb : ((putW TX s.fin d).2 == 0) = false := by rw [beq_eq_false_iff_ne]; exact he
    have c44 : w4.cell? ⟨q, 4, none⟩ = some (.bool s.stop) := HL4.out.blk.cell 4
    have f44 := HL4.out.blk.frozen 4
    have HH := Lib.hid (HL4.out.halt)
    have HOO := Lib.hid (HO4.out.trans ((Only.setCell [q] w4 (p := ⟨q, 4, none⟩) (by simp) (.bool true)).mono (cs := q :: g :: b :: (Value.slice va s.l.length vc).ownBlock.toList) (by intro k hk; simp at hk; simp [hk])))
    have HE := Lib.hid he
    rw [HLAY.out, if_neg he] at HA
    clear he
    generalize hP : (putW TX s.fin d).2 = er at *
    have HPP := Lib.hid hP
    clear hP
    go_wp2
    go_ret
    exact ⟨_, by rw [HA.out]; rfl, by rw [HA.out]; exact HH.out, .inl rfl, HOO.out⟩

end Go.Proofs.YtgfkejecigefbaaDoor

namespace Go.Proofs.YtgfkejecigefbaaDoor
open Go.RowKit
set_option linter.unusedVariables false

def zeroSC : Array Value := (Array.replicate 128 (Value.int .u8 0)).push (.bool false)
def zeroSec : Sec := { now := List.replicate 64 0, kept := List.replicate 64 0, waits := false }
theorem infoSec : (Tryd.prog.info? 87).map (fun i => (i.zero, i.size, i.bytes)) = some (some (.agg zeroSC), 129, 129) := by kernel_rfl
def madeRow (n : Nat) : Array Value := madeCells zeroSC (n * 129)
theorem run_make_secs (n : Nat) (hn : n ≤ 16384) (w : World) : (Instr.makeSlice 41 (.int .i64 n) (.int .i64 n)).run Tryd.prog w = .ok (.slice (some ⟨w.heap.size, 0, none⟩) n n) (w.alloc (.cells (madeRow n) 87)) := by
  obtain ⟨i0, hi, hz0, hz1, hz2⟩ := info_parts infoSec
  have hr := run_make (P := Tryd.prog) w 41 87 i0 _ Tryd.underlying41 hi hz0 .i64 .i64 n n (by omega) (Int.le_refl _) (by rw [hz2]; omega) (by omega)
  simp only [Int.toNat_natCast, hz1, Value.cells] at hr
  exact hr
theorem zeroSC_at {j : Nat} (h : j < 129) : zeroSC[j]! = if j < 128 then Value.int .u8 0 else .bool false := by
  unfold zeroSC
  by_cases q : j < 128
  · rw [if_pos q, getElem!_pos _ _ (by simp; omega), Array.getElem_push_lt (by simpa using q)]; simp
  · obtain rfl : j = 128 := by omega
    rw [if_neg q, getElem!_pos ((Array.replicate 128 (Value.int .u8 0)).push (.bool false)) 128 (by simp)]
    rw [Array.getElem_push, dif_neg (by simp)]
theorem madeRow_at {n i j : Nat} (hi : i < n) (hj : j < 129) : (madeRow n)[i * 129 + j]? = some (if j < 128 then Value.int .u8 0 else .bool false) := by
  have hlt : i * 129 + j < n * 129 := by omega
  unfold madeRow madeCells
  rw [Array.getElem?_map, Array.getElem?_eq_getElem (by simpa using hlt), Option.map_some, Array.getElem_range]
  rw [show (i * 129 + j) % zeroSC.size = j from by rw [show zeroSC.size = 129 from rfl]; omega, zeroSC_at hj]
theorem madeRow_row (w : World) (n : Nat) : SRow (w.alloc (.cells (madeRow n) 87)) w.heap.size (List.replicate n zeroSec) := by
  have k := Blk.new w 87 (madeRow n)
  have rep : ∀ j, j < 64 → ((List.replicate 64 (0 : Int)).map (Value.int .u8))[j]? = some (Value.int .u8 0) := fun j hj => by
    rw [List.getElem?_map, List.getElem?_replicate, if_pos hj]; rfl
  refine ⟨⟨_, k⟩, fun i s hs => ?_, fun s hs => ?_⟩
  · rw [List.getElem?_replicate] at hs
    split at hs
    · rename_i hi
      cases hs
      refine ⟨fun j v hv => ?_, fun j v hv => ?_, ?_⟩
      · have hj : j < 64 := by have := (List.getElem?_eq_some_iff.1 hv).1; simpa [zeroSec] using this
        have e := rep j hj
        rw [show (zeroSec.now.map (Value.int .u8))[j]? = some (Value.int .u8 0) from e] at hv
        cases hv
        rw [k.cell, madeRow_at hi (by omega), if_pos (by omega)]
      · have hj : j < 64 := by have := (List.getElem?_eq_some_iff.1 hv).1; simpa [zeroSec] using this
        have e := rep j hj
        rw [show (zeroSec.kept.map (Value.int .u8))[j]? = some (Value.int .u8 0) from e] at hv
        cases hv
        rw [k.cell, Nat.add_assoc, madeRow_at hi (by omega), if_pos (by omega)]
      · rw [k.cell, madeRow_at hi (by omega), if_neg (by omega)]; rfl
    · cases hs
  · obtain ⟨_, rfl⟩ := List.mem_replicate.1 hs
    exact ⟨by simp [zeroSec], by simp [zeroSec]⟩
theorem zeroSec_ok : zeroSec.ok := ⟨by simp [zeroSec], by simp [zeroSec], fun x hx => by obtain ⟨_, rfl⟩ := List.mem_replicate.1 hx; omega, fun x hx => by obtain ⟨_, rfl⟩ := List.mem_replicate.1 hx; omega, fun _ => rfl⟩

def mayD (n : Int) : Bool := decide (1 ≤ n ∧ n ≤ 16384)
theorem dmay_any (n : Int) (w : World) : Calls Tryd.prog 41 #[.int .i64 n] w fun e w' => e = .returned (.bool (mayD n)) ∧ w = w' := by
  by_cases h1 : 1 ≤ n
  · by_cases h2 : n ≤ 16384
    · have HE := Lib.hid (show mayD n = true from decide_eq_true ⟨h1, h2⟩)
      go_enter Tryd.func41, Tryd.ntmps41
      go_wp2
      go_ret
      exact ⟨ret_bool HE.out.symm, rfl⟩
    · have HE := Lib.hid (show mayD n = false from decide_eq_false fun q => h2 q.2)
      go_enter Tryd.func41, Tryd.ntmps41
      go_wp2
      go_ret
      exact ⟨ret_bool HE.out.symm, rfl⟩
  · have HE := Lib.hid (show mayD n = false from decide_eq_false fun q => h1 q.1)
    go_enter Tryd.func41, Tryd.ntmps41
    go_wp2
    go_ret
    exact ⟨ret_bool HE.out.symm, rfl⟩

def newD (n : Nat) : DSt := { l := List.replicate n zeroSec, dead := false, fused := false, burns := 0, changes := 0 }
set_option maxHeartbeats 400000 in
theorem dnew_ok (n : Nat) (w : World) (h1 : 1 ≤ n) (h2 : n ≤ 16384) :
    Calls Tryd.prog 18 #[.int .i64 n] w fun e w' => ∃ g b, e = .returned (.tuple #[.pointer (some ⟨g, 0, none⟩), .int .i64 0]) ∧ w.heap.size ≤ g ∧ w.heap.size ≤ b ∧ Dev w' g b (newD n) ∧ Below w.heap.size w w' := by
  have HM := Lib.hid (dmay_any n w)
  rw [show mayD n = true from decide_eq_true (by omega)] at HM
  have hmk := run_make_secs n h2
  have hb1 : Below w.heap.size w (w.alloc (.cells (madeRow n) 87)) := (Below.refl _ _).alloc (Nat.le_refl _) _
  have k1 := Blk.new (w.alloc (.cells (madeRow n) 87)) 43 #[.slice (some ⟨w.heap.size, 0, none⟩) n n, .bool false, .bool false, .int .i64 0, .int .i64 0]
  have hb2 := hb1.alloc hb1.size (.cells #[.slice (some ⟨w.heap.size, 0, none⟩) n n, .bool false, .bool false, .int .i64 0, .int .i64 0] 43)
  have hD : Dev ((w.alloc (.cells (madeRow n) 87)).alloc (.cells #[.slice (some ⟨w.heap.size, 0, none⟩) n n, .bool false, .bool false, .int .i64 0, .int .i64 0] 43)) (w.heap.size + 1) w.heap.size (newD n) := by
    refine ⟨⟨n, by simp [newD], by omega, ?_⟩, ?_, by simp [newD]; omega, fun s hs => ?_⟩
    · rw [World.size_alloc] at k1
      simpa [newD] using k1
    · exact (madeRow_row w n).keep (Below.heap_alloc _ _ _ (by simp))
    · obtain ⟨_, rfl⟩ := List.mem_replicate.1 (show s ∈ List.replicate n zeroSec from hs)
      exact zeroSec_ok
  have HD := Lib.hid hD
  have HB := Lib.hid hb2
  clear hb1 k1 hb2 hD
  go_enter Tryd.func18, Tryd.ntmps18
  go_wp2_with fail
  refine HM.out.mono ?_
  rintro e w1 ⟨rfl, rfl⟩
  go_wp2
  go_ret2
  exact ⟨_, _, rfl, by omega, Nat.le_refl _, HD.out, HB.out⟩
theorem dnew_no (n : Int) (w : World) (h : ¬ (1 ≤ n ∧ n ≤ 16384)) :
    Calls Tryd.prog 18 #[.int .i64 n] w fun e w' => e = .returned (.tuple #[.pointer none, .int .i64 1]) ∧ w = w' := by
  have HM := Lib.hid (dmay_any n w)
  rw [show mayD n = false from decide_eq_false h] at HM
  clear h
  go_enter Tryd.func18, Tryd.ntmps18
  go_wp2_with fail
  refine HM.out.mono ?_
  rintro e w1 ⟨rfl, rfl⟩
  go_wp2
  go_ret2
  exact ⟨rfl, rfl⟩

end Go.Proofs.YtgfkejecigefbaaDoor

namespace Go.Proofs.YtgfkejecigefbaaDoor
open Go.RowKit
set_option linter.unusedVariables false

theorem append_any (w : World) (q g b B : Nat) (v : Value) (s : LSt) (d : DSt) (vb : Value) (bs : List Int) (h : Lg w q g b B v s d) (hB : IsB bs) (ht : Tabs w) (hs : Sl w vb (bs.map (Value.int .u8))) (hsf : ∀ w', Only (q :: g :: b :: v.ownBlock.toList) w w' → Sl w' vb (bs.map (Value.int .u8))) :
    Calls Tryd.prog 11 #[.pointer (some ⟨q, 0, none⟩), vb] w fun e w' => AppP w w' q g b B v (appD s d bs) e := by
  by_cases hno : (bs.length < 1 ∨ 4000 < bs.length) ∨ s.stop = true ∨ s.secs < s.fin + (laidI ((s.l.length : Int) + 1) bs).length
  · exact append_no w q g b B v s d vb bs h hB ht hs hno
  · have h3 : s.stop = false := by
      cases hq : s.stop with
      | false => rfl
      | true => exact absurd (.inr (.inl hq)) hno
    exact append_go w q g b B v s d vb bs h hB ht hs hsf (by omega) (by omega) h3 (by omega)

/-- A device that neither has stopped nor will. -/
def DSt.calm (d : DSt) : Prop := d.dead = false ∧ d.fused = false
theorem DSt.calm.stops {d : DSt} (h : d.calm) : d.stops = false := by unfold DSt.stops; rw [h.1, h.2]; rfl
theorem DSt.calm.chgE {d : DSt} (h : d.calm) : d.chgE = 0 := by unfold DSt.chgE; rw [if_neg (by rw [h.stops]; decide)]
theorem DSt.calm.chg {d : DSt} (h : d.calm) : d.chg.calm := by unfold DSt.chg; rw [if_neg (by rw [h.stops]; decide)]; exact h
theorem DSt.calm.wrote {d : DSt} (h : d.calm) (i : Int) (s : List Int) : (d.wrote i s).calm := by
  unfold DSt.wrote
  split
  · rw [if_neg (by rw [h.stops]; decide)]; exact h.chg
  · exact h
theorem DSt.calm.synced {d : DSt} (h : d.calm) : d.synced.calm := by
  unfold DSt.synced
  rw [if_neg (by rw [h.stops]; decide)]; exact h.chg
theorem DSt.calm.wrE {d : DSt} (h : d.calm) {i : Nat} {s : List Int} (hi : i < d.l.length) (hs : s.length = 64) : d.wrE i s = 0 := by
  unfold DSt.wrE DSt.has
  rw [if_pos (decide_eq_true (by omega)), if_pos hs]
  exact h.chgE
theorem putW_calm : ∀ (ss : List (List Int)) (i : Nat) (d : DSt), d.calm → (∀ p ∈ ss, p.length = 64) → i + ss.length ≤ d.l.length → (putW ss i d).2 = 0 ∧ (putW ss i d).1.calm
  | [], i, d, h, _, _ => ⟨h.chgE, h.synced⟩
  | s :: r, i, d, h, h64, hl => by
    rw [List.length_cons] at hl
    rw [putW, if_pos (h.wrE (by omega) (h64 s (by simp)))]
    exact putW_calm r (i + 1) _ (h.wrote _ _) (fun p hp => h64 p (by simp [hp])) (by rw [wrote_len]; omega)
theorem layD_calm {n : Int} {bs : List Int} {i : Nat} {d : DSt} (h : d.calm) (hl : i + (laidI n bs).length ≤ d.l.length) : (layD n bs i d).2 = 0 ∧ (layD n bs i d).1.calm := by
  unfold laidI at hl
  rw [List.length_append] at hl
  have h1 := putW_calm (textS n bs) i d h (textS_64 n bs) (by omega)
  unfold layD
  rw [if_pos h1.1]
  exact putW_calm _ _ _ h1.2 (cut64_64 _) (by rw [putW_len]; omega)
def fits (s : LSt) (bs : List Int) : Prop := s.fin + (laidI ((s.l.length : Int) + 1) bs).length ≤ s.secs
/-- Append, on such a device. -/
theorem appD_calm {s : LSt} {d : DSt} {bs : List Int} (h : d.calm) (hs : s.stop = false) (hl : s.secs = d.l.length) :
    (appD s d bs).d.calm ∧ (appD s d bs).s.stop = false ∧ (appD s d bs).s.secs = s.secs ∧ (appD s d bs).d.l.length = d.l.length ∧
    ((1 ≤ bs.length ∧ bs.length ≤ 4000 ∧ fits s bs) → (appD s d bs).e = 0 ∧ (appD s d bs).s = ⟨s.secs, s.fin + (laidI ((s.l.length : Int) + 1) bs).length, s.l ++ [bs], false⟩) ∧
    ((1 ≤ bs.length ∧ bs.length ≤ 4000 ∧ ¬ fits s bs) → appD s d bs = ⟨s, d, 4⟩) ∧
    (¬ (1 ≤ bs.length ∧ bs.length ≤ 4000) → appD s d bs = ⟨s, d, 1⟩) := by
  unfold appD fits
  by_cases h1 : bs.length < 1 ∨ 4000 < bs.length
  · rw [if_pos h1]
    exact ⟨h, hs, rfl, rfl, fun q => by omega, fun q => by omega, fun _ => rfl⟩
  · rw [if_neg h1, if_neg (by rw [hs]; decide)]
    by_cases h2 : s.secs < s.fin + (laidI ((s.l.length : Int) + 1) bs).length
    · rw [if_pos h2]
      exact ⟨h, hs, rfl, rfl, fun q => by omega, fun q => rfl, fun q => by omega⟩
    · rw [if_neg h2]
      have h3 := layD_calm (n := (s.l.length : Int) + 1) (bs := bs) (i := s.fin) h (by omega)
      rw [if_pos h3.1]
      exact ⟨h3.2, rfl, rfl, layD_len _ _ _ _, fun _ => ⟨rfl, rfl⟩, fun q => by omega, fun q => by omega⟩
/-- The room says what fits. -/
theorem room_fits {s : LSt} {bs : List Int} (hf : s.fin ≤ s.secs) (h1 : 1 ≤ bs.length) (h2 : bs.length ≤ 4000) : fits s bs ↔ (bs.length : Int) ≤ roomI s := by
  unfold fits roomI
  rw [laidI_len]
  omega

theorem next_zero {r : List (List Int)} {num : Int} : nextI (zS :: r) num = none := by
  refine nextI_no fun q => ?_
  have h1 := q.1
  have h2 : lenAt (zS :: r) = 0 := by
    unfold lenAt
    rw [show (zS :: r).getD 0 [] = zS from rfl]
    decide
  omega
theorem next_nil {num : Int} : nextI [] num = none := nextI_no fun q => by have := q.2.2; simp at this
theorem wipe_zero : ∀ (k i : Nat) (d : DSt), wipeD (List.replicate k zS) i false d = (d, 0)
  | 0, i, d => rfl
  | k + 1, i, d => by
    rw [List.replicate_succ, wipeD, if_pos rfl]
    exact wipe_zero k (i + 1) d
theorem new_img (n : Nat) : (newD n).img = List.replicate n zS := by simp [newD, DSt.img, zeroSec, zS]
theorem scan_zero (n : Nat) : scanAll (List.replicate n zS) = ([], 0) := by
  unfold scanAll
  refine scanI_none ?_
  rw [List.drop_zero]
  cases n with
  | zero => exact next_nil
  | succ n => rw [List.replicate_succ]; exact next_zero
theorem new_opened (n : Nat) : (newD n).opened = (newD n, 0) := by
  unfold DSt.opened
  rw [if_neg (by simp [newD])]
  unfold DSt.wiped
  rw [new_img, scan_zero, List.drop_zero]
  exact wipe_zero n 0 _
theorem new_log (n : Nat) : (newD n).log = ⟨n, 0, [], false⟩ := by
  unfold DSt.log
  rw [new_img, scan_zero]
  simp [newD]
theorem new_calm (n : Nat) : (newD n).calm := ⟨rfl, rfl⟩
theorem new_len (n : Nat) : (newD n).l.length = n := by simp [newD]

end Go.Proofs.YtgfkejecigefbaaDoor
