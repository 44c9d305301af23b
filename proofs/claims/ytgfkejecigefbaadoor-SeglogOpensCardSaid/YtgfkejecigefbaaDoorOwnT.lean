
/- Rows of the call's own whose cells are no bytes; lists of texts that the call makes. Conditions: none. -/
import Derived.Test.YtgfkejecigefbaaDoorClone
import Derived.Test.YtgfkejecigefbaaDoorBlk
namespace Go.Proofs.YtgfkejecigefbaaDoor
open Go.RowKit
set_option linter.unusedVariables false

def notB (u : Value) : Prop := ∀ n, u ≠ .int .u8 n

theorem notB_slice (a : Option Addr) (n c : Nat) : notB (.slice a n c) := fun _ h => by cases h

def OwnK (w : World) (base : Nat) (e : TypeId) (size : Nat) (v : Value) (n : Nat) (xs : List Value) : Prop :=
  w.ownsRow base e size v n xs ∧ ∀ g, v.ownBlock = some g → ∃ cur, w.heap[g]? = some (.cells cur e (0, 0)) ∧ ∀ c ∈ cur.toList, notB c

theorem OwnK.nil (w : World) (base : Nat) (e : TypeId) (size : Nat) : OwnK w base e size (.slice none 0 0) 0 [] := ⟨World.ownsRow_nil _ _ _ _, fun g h => by simp [Value.ownBlock] at h⟩

theorem OwnK.below {w w' : World} {base : Nat} {e : TypeId} {size : Nat} {v : Value} {n : Nat} {xs : List Value} (h : OwnK w base e size v n xs) {B : Nat} (hb : Below B w w') (hB : w.heap.size ≤ B) : OwnK w' base e size v n xs :=
  ⟨ownsRow_below h.1 hb hB, fun g hg => by
    obtain ⟨cur, h1, h2⟩ := h.2 g hg
    exact ⟨cur, (hb.block g (Nat.lt_of_lt_of_le (h.1.lt g hg).2 hB)).trans h1, h2⟩⟩

theorem zeroCells_notB {z : Array Value} (hz : ∀ c ∈ z.toList, notB c) (n : Nat) : ∀ c ∈ (Builtin.zeroCells z n).toList, notB c := by
  intro c hc
  simp only [Builtin.zeroCells, Array.toList_map, List.mem_map] at hc
  obtain ⟨i, hi, rfl⟩ := hc
  have hi' : i < n * z.size := by simpa using hi
  have hs : 0 < z.size := by
    rcases Nat.eq_zero_or_pos z.size with h0 | h0
    · rw [h0] at hi'; omega
    · exact h0
  have hlt : i % z.size < z.size := Nat.mod_lt _ hs
  rw [getElem!_pos z (i % z.size) hlt]
  exact hz _ (by simp)

theorem run_append_ownK {P : Program} (w : World) (base : Nat) (t ty e : TypeId) (i : TypeInfo) (z : Value) (size bytes : Nat) (ht : P.underlying t = some (.slice e)) (hi : P.info? e = some i) (hz : i.zero = some z)
    (hsize : i.size = size) (hby : i.bytes = bytes) (hzs : z.cells.size = size) (hsz : 0 < size) (hzK : ∀ c ∈ z.cells.toList, notB c)
    (v : Value) (n : Nat) (xs : List Value) (hownK : OwnK w base e size v n xs)
    (a : Addr) (m c : Nat) (news : List Value) (hl : news.length = m * size) (hnews : ∀ j u, news[j]? = some u → w.cell? (a.add j) = some u) (h1 : ∀ u ∈ news, u.oneCell' = true) (hK : ∀ u ∈ news, notB u)
    (h63 : n + m ≤ maxLen) (hbytes : (n + m) * bytes ≤ 140737488355328) (hbase : base ≤ w.heap.size) :
    ∃ v' w', (Builtin.append_ #[t, t] ty #[v, .slice (some a) m c]).run P w = .ok v' w' ∧ OwnK w' base e size v' (n + m) (xs ++ news) ∧ w.grownBy w' v.ownBlock := by
  have hown := hownK.1
  have hxK : ∀ u ∈ xs, notB u := by
    intro u hu
    rcases hown.2 with ⟨rfl, rfl⟩ | ⟨g, cap, cur, rfl, hbg, hg, hnc, hcm, hcs, htake⟩
    · have hx : xs = [] := List.eq_nil_of_length_eq_zero (by simpa using hown.1)
      subst hx; cases hu
    · obtain ⟨cur', h2, h3⟩ := hownK.2 g rfl
      rw [hg] at h2
      cases h2
      rw [← htake] at hu
      exact h3 u (List.mem_of_mem_take hu)
  subst hsize
  subst hby
  have hsmall : n + m ≤ 9223372036854775807 := by simp only [maxLen] at h63; omega
  have hlen : (xs ++ news).length = (n + m) * i.size := by rw [List.length_append, hown.1, hl, Nat.add_mul]
  have grown : ∀ (old : Nat), old < n + m → ∀ (row : Option Nat),
      OwnK (w.drew.alloc (.cells (xs.toArray ++ news.toArray ++ Builtin.zeroCells z.cells (grownCap w (n + m) old e - (n + m))) e)) base e i.size
        (.slice (some ⟨w.heap.size, 0, none⟩) (n + m) (grownCap w (n + m) old e)) (n + m) (xs ++ news) ∧
      w.grownBy (w.drew.alloc (.cells (xs.toArray ++ news.toArray ++ Builtin.zeroCells z.cells (grownCap w (n + m) old e - (n + m))) e)) row := by
    intro old ho row
    have hge := grownCap_ge w (n + m) old e
    have hcm : grownCap w (n + m) old e ≤ maxLen := grownCap_le_maxLen w (n + m) old e h63
    refine ⟨⟨⟨hlen, .inr ⟨w.heap.size, _, _, rfl, hbase, heap_alloc_new w.drew _, hge, hcm, ?_, ?_⟩⟩, ?_⟩, ⟨rfl, rfl, rfl, by simp, fun k hk _ => Below.heap_alloc w.drew _ k hk⟩⟩
    · simp only [Array.size_append, List.size_toArray, size_zeroCells, hzs, hown.1, hl, ← Nat.add_mul]
      congr 1
      omega
    · simp only [Array.toList_append, List.append_assoc]
      rw [← List.append_assoc, ← hlen]
      exact List.take_left
    · intro g hg
      have : w.heap.size = g := by simpa [Value.ownBlock] using hg
      subst this
      refine ⟨_, heap_alloc_new w.drew _, fun u hu => ?_⟩
      simp only [Array.toList_append, List.mem_append] at hu
      rcases hu with (hu | hu) | hu
      · exact hxK u hu
      · exact hK u hu
      · exact zeroCells_notB hzK _ u hu
  rcases hown.2 with ⟨rfl, rfl⟩ | ⟨g, cap, cur, rfl, hbg, hg, hnc, hcm, hcs, htake⟩
  · have hx : xs = [] := List.eq_nil_of_length_eq_zero (by simpa using hown.1)
    subst hx
    by_cases hm : m = 0
    · subst hm
      have hn : news = [] := List.eq_nil_of_length_eq_zero (by simpa using hl)
      subst hn
      refine ⟨.slice none 0 0, w, ?_, OwnK.nil w base e i.size, ⟨rfl, rfl, rfl, Nat.le_refl _, fun _ _ _ => rfl⟩⟩
      simp [Builtin.append_, run_underlying ht, sizeOf, typeInfo, hi, Builtin.lenOf, Builtin.firstCells, loadCells, loadCellsFrom]
    · have hr := run_append_nil (P := P) w t ty e i z ht hi hz a m c news hl hnews (by omega) (by omega) (by have hb := hbytes; simp only [Nat.zero_add] at hb; omega)
      have hgr := grown 0 (by omega) (Value.ownBlock (.slice none 0 0))
      simp only [Nat.zero_add, List.nil_append, Array.empty_append] at hgr ⊢
      exact ⟨_, _, hr, hgr.1, hgr.2⟩
  · by_cases hroom : n + m ≤ cap
    · have hfit : n * i.size + news.length ≤ cur.size := by rw [hl, hcs, ← Nat.add_mul]; exact Nat.mul_le_mul_right _ hroom
      have hr := run_append_room (P := P) w t ty e i ht hi g n cap cur hg a m c news hl hnews h1 hroom hfit
      refine ⟨_, _, hr, ⟨⟨hlen, .inr ⟨g, cap, _, rfl, hbg, setRow_heap w g cur _ e _ hg, hroom, hcm, ?_, ?_⟩⟩, ?_⟩, ⟨rfl, rfl, rfl, by simp, fun k _ hk => setRow_other w g k _ (fun e => hk (by simp [Value.ownBlock, e]))⟩⟩
      · simp only [List.size_toArray, List.length_append, List.length_take, List.length_drop, Array.length_toList]
        omega
      · rw [htake, ← hlen]
        exact List.take_left
      · intro g' hg'
        have : g = g' := by simpa [Value.ownBlock] using hg'
        subst this
        obtain ⟨cur', h2, h3⟩ := hownK.2 g rfl
        rw [hg] at h2
        cases h2
        refine ⟨_, setRow_heap w g cur _ e _ hg, fun u hu => ?_⟩
        simp only [List.mem_append] at hu
        rcases hu with hu | hu
        · rcases hu with hu | hu
          · exact h3 u (List.mem_of_mem_take hu)
          · exact hK u hu
        · exact h3 u (List.mem_of_mem_drop hu)
    · have holds : ∀ j u, xs[j]? = some u → w.cell? ((⟨g, 0, none⟩ : Addr).add j) = some u := hown.cells (g := g) rfl
      have hr := run_append_grow (P := P) w t ty e i z ht hi hz ⟨g, 0, none⟩ n cap xs hown.1 holds a m c news hl hnews (by omega) (by omega) (growslice_fits (by omega) hbytes)
      have hgr := grown cap (by omega) (Value.ownBlock (.slice (some ⟨g, 0, none⟩) n cap))
      exact ⟨_, _, hr, hgr.1, hgr.2⟩

/-- A text is as it was behind an append to a row without bytes. -/
theorem Sl.keepK {w w' : World} {v : Value} {bs : List Int} (hs : Sl w v (bs.map (Value.int .u8))) {base : Nat} {e : TypeId} {size : Nat} {r : Value} {n : Nat} {xs : List Value} (hown : OwnK w base e size r n xs) (hg : w.grownBy w' r.ownBlock) : Sl w' v (bs.map (Value.int .u8)) := by
  obtain ⟨a, cap, rfl, h1, h2, h3⟩ := hs
  refine ⟨a, cap, rfl, h1, h2, fun hp => ?_⟩
  obtain ⟨b, off, rfl, hlt, hc⟩ := h3 hp
  have hne : some b ≠ r.ownBlock := by
    intro he
    obtain ⟨cur, hcur, hK⟩ := hown.2 b he.symm
    have hl : 0 < bs.length := by simpa using hp
    have h0 := hc 0 (.int .u8 bs[0]) (by rw [List.getElem?_map, List.getElem?_eq_getElem hl]; rfl)
    rw [cell_of_row w b (off + 0) cur e (0, 0) hcur] at h0
    exact hK _ (by have := Array.mem_of_getElem? h0; simpa using this) _ rfl
  refine ⟨b, off, rfl, Nat.lt_of_lt_of_le hlt hg.size, fun j u hu => ?_⟩
  rw [hg.cell_far ⟨b, off + j, none⟩ hlt hne]
  exact hc j u hu

theorem SlAll.keepK {w w' : World} {base : Nat} {e : TypeId} {size : Nat} {r : Value} {n : Nat} {xs : List Value} (hown : OwnK w base e size r n xs) (hg : w.grownBy w' r.ownBlock) : ∀ {us : List Value} {ps : List (List Int)}, SlAll w us ps → SlAll w' us ps
  | [], [], _ => trivial
  | [], _ :: _, h => h.elim
  | _ :: _, [], h => h.elim
  | _ :: _, _ :: _, h => ⟨h.1.keepK hown hg, SlAll.keepK hown hg h.2⟩
theorem SlAll.below {w w' : World} (hb : Below w.heap.size w w') : ∀ {us : List Value} {ps : List (List Int)}, SlAll w us ps → SlAll w' us ps
  | [], [], _ => trivial
  | [], _ :: _, h => h.elim
  | _ :: _, [], h => h.elim
  | _ :: _, _ :: _, h => ⟨h.1.below hb (Nat.le_refl _), SlAll.below hb h.2⟩
theorem SlAll.snoc {w : World} {u : Value} {p : List Int} (hu : Sl w u (p.map (Value.int .u8))) : ∀ {us : List Value} {ps : List (List Int)}, SlAll w us ps → SlAll w (us ++ [u]) (ps ++ [p])
  | [], [], _ => ⟨hu, trivial⟩
  | [], _ :: _, h => h.elim
  | _ :: _, [], h => h.elim
  | _ :: _, _ :: _, h => ⟨h.1, SlAll.snoc hu h.2⟩

/-- A list of texts that the call makes. -/
def OSls (w : World) (base : Nat) (v : Value) (pss : List (List Int)) : Prop := ∃ vs, OwnK w base 26 1 v pss.length vs ∧ SlAll w vs pss

theorem OSls.nil (w : World) (base : Nat) : OSls w base (.slice none 0 0) [] := ⟨[], OwnK.nil _ _ _ _, trivial⟩
theorem OSls.below {w w' : World} {base : Nat} {v : Value} {pss : List (List Int)} (h : OSls w base v pss) (hb : Below w.heap.size w w') : OSls w' base v pss := by
  obtain ⟨vs, h1, h2⟩ := h
  exact ⟨vs, h1.below hb (Nat.le_refl _), h2.below hb⟩
theorem OSls.sls {w : World} {base : Nat} {v : Value} {pss : List (List Int)} (h : OSls w base v pss) : Sls w v pss := by
  obtain ⟨vs, h1, h2⟩ := h
  exact ⟨vs, Sl.of_owns h1.1, h2.len, h2.at⟩
theorem OSls.val {w : World} {base : Nat} {v : Value} {pss : List (List Int)} (h : OSls w base v pss) : ∃ a c, v = .slice a pss.length c := by
  obtain ⟨a, c, h1, _⟩ := h.sls.shape
  exact ⟨a, c, h1⟩

theorem infoT : (Tryd.prog.info? 26).map (fun i => (i.zero, i.size, i.bytes)) = some (some (.slice none 0 0), 1, 24) := by kernel_rfl

theorem wpList_append_text {w : World} {ops : Array Oper} {rest : List Oper} {o : Oper} {a : Act} {Q : Exit → Act → World → Prop} (hgd : o.guard = none) (s x : Operand)
    (ho : o.op = .call { callee := .builtin .append, args := #[s, x], argTypes := #[27, 27] })
    (base : Nat) (v : Value) (pss : List (List Int)) (hs : a.eval s = v) (hown : OSls w base v pss)
    (b cap : Nat) (hx : a.eval x = .slice (some ⟨b, 0, none⟩) 1 cap) (u : Value) (hc : w.cell? ⟨b, 0, none⟩ = some u) (p : List Int) (hu : Sl w u (p.map (Value.int .u8)))
    (h63 : pss.length + 1 ≤ 5000000000000) (hbase : base ≤ w.heap.size)
    (h : ∀ v' w', OSls w' base v' (pss ++ [p]) → Below base w w' → w.grownBy w' v.ownBlock → wpList Tryd.prog ops Q rest (a.put o.dst v') w') : wpList Tryd.prog ops Q (o :: rest) a w := by
  obtain ⟨vs, h1, h2⟩ := hown
  obtain ⟨i0, hi, hz0, hz1, hz2⟩ := info_parts infoT
  obtain ⟨ua, un, uc, rfl⟩ := hu.val
  obtain ⟨v', w', hrun, hown', hg⟩ := run_append_ownK (P := Tryd.prog) w base 27 o.type 26 i0 (.slice none 0 0) 1 24 Tryd.underlying27 hi hz0 hz1 hz2 rfl (by decide) (by intro c hc; simp [Value.cells] at hc; subst hc; exact notB_slice _ _ _) v pss.length vs h1 ⟨b, 0, none⟩ 1 cap [.slice ua un uc] rfl
    (fun j y hj => by
      match j, hj with
      | 0, hj => simp at hj; subst hj; exact hc
      | j + 1, hj => simp at hj) (by simp [Value.oneCell']) (by simp [notB_slice]) (by unfold maxLen; omega) (by omega) hbase
  refine wpList_plain hgd fun K hK => ?_
  unfold Oper.wp
  simp [execOp, ho, resolve, invoke, builtin, hs, hx, hrun, Result.andThen]
  refine hK _ _ (h v' w' ⟨_, by simpa using hown', (h2.keepK h1 hg).snoc (hu.keepK h1 hg)⟩ ?_ hg)
  exact (Below.refl _ _).grown hg hbase (fun k hk => (h1.1.lt k hk).1)

end Go.Proofs.YtgfkejecigefbaaDoor
