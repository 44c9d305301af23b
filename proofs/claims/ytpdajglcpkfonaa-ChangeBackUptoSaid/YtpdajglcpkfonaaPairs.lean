/- Batches in memory that a call makes: rows of pairs of byte slices; what reading a batch yields. Conditions: none. -/
import Derived.Test.YtpdajglcpkfonaaRdP
import Derived.Test.YtpdajglcpkfonaaBnd
import Derived.Test.YtpdajglcpkfonaaOwnT
import Derived.Test.YtpdajglcpkfonaaReaderF
namespace Go.Proofs.Ytpdajglcpkfonaa
open Go.RowKit
set_option linter.unusedVariables false

def flat2 (vs : List (Value × Value)) : List Value := vs.flatMap fun p => [p.1, p.2]
theorem flat2_len (vs : List (Value × Value)) : (flat2 vs).length = vs.length * 2 := by
  induction vs with
  | nil => rfl
  | cons p vs ih => simp only [flat2, List.flatMap_cons, List.length_append, List.length_cons, List.length_nil] at *; omega
theorem flat2_snoc (vs : List (Value × Value)) (u1 u2 : Value) : flat2 (vs ++ [(u1, u2)]) = flat2 vs ++ [u1, u2] := by simp [flat2]
theorem flat2_get : ∀ (vs : List (Value × Value)) (k : Nat) (u : Value × Value), vs[k]? = some u → (flat2 vs)[k * 2]? = some u.1 ∧ (flat2 vs)[k * 2 + 1]? = some u.2
  | [], k, u, h => by simp at h
  | p :: vs, 0, u, h => by simp at h; subst h; simp [flat2]
  | p :: vs, k + 1, u, h => by
    have := flat2_get vs k u (by simpa using h)
    have e : flat2 (p :: vs) = p.1 :: p.2 :: flat2 vs := by simp [flat2]
    rw [e, show (k + 1) * 2 = (k * 2) + 1 + 1 by omega]
    simpa using this
theorem flat2_set1 : ∀ (vs : List (Value × Value)) (k : Nat) (u : Value × Value) (x : Value), vs[k]? = some u → (flat2 vs).set (k * 2) x = flat2 (vs.set k (x, u.2))
  | [], k, u, x, h => by simp at h
  | p :: vs, 0, u, x, h => by simp at h; subst h; simp [flat2]
  | p :: vs, k + 1, u, x, h => by
    have := flat2_set1 vs k u x (by simpa using h)
    have e : ∀ q ws, flat2 (q :: ws) = q.1 :: q.2 :: flat2 ws := fun q ws => by simp [flat2]
    rw [e, show (k + 1) * 2 = (k * 2) + 1 + 1 by omega, List.set_cons_succ, List.set_cons_succ, List.set_cons_succ, e, this]
theorem flat2_set2 : ∀ (vs : List (Value × Value)) (k : Nat) (u : Value × Value) (x : Value), vs[k]? = some u → (flat2 vs).set (k * 2 + 1) x = flat2 (vs.set k (u.1, x))
  | [], k, u, x, h => by simp at h
  | p :: vs, 0, u, x, h => by simp at h; subst h; simp [flat2]
  | p :: vs, k + 1, u, x, h => by
    have := flat2_set2 vs k u x (by simpa using h)
    have e : ∀ q ws, flat2 (q :: ws) = q.1 :: q.2 :: flat2 ws := fun q ws => by simp [flat2]
    rw [e, show (k + 1) * 2 + 1 = (k * 2 + 1) + 1 + 1 by omega, List.set_cons_succ, List.set_cons_succ, List.set_cons_succ, e, this]

/-- The pairs of values read as the changes, one by one. -/
def PRd (w : World) : List (Value × Value) → List Chg → Prop
  | [], [] => True
  | u :: us, p :: ps => (Sl w u.1 (p.1.map (Value.int .u8)) ∧ Sl w u.2 (p.2.map (Value.int .u8))) ∧ PRd w us ps
  | _, _ => False

theorem PRd.len {w : World} : ∀ {us : List (Value × Value)} {ps : List Chg}, PRd w us ps → us.length = ps.length
  | [], [], _ => rfl
  | [], _ :: _, h => h.elim
  | _ :: _, [], h => h.elim
  | _ :: _, _ :: _, h => by simp [PRd.len h.2]
theorem PRd.at {w : World} : ∀ {us : List (Value × Value)} {ps : List Chg}, PRd w us ps → ∀ (i : Nat) (u : Value × Value) (p : Chg), us[i]? = some u → ps[i]? = some p → Sl w u.1 (p.1.map (Value.int .u8)) ∧ Sl w u.2 (p.2.map (Value.int .u8))
  | [], [], _, i, u, bs, hu, _ => by simp at hu
  | [], _ :: _, h, _, _, _, _, _ => h.elim
  | _ :: _, [], h, _, _, _, _, _ => h.elim
  | v :: us, p :: ps, h, 0, u, bs, hu, hp => by
    simp at hu hp
    subst hu hp
    exact h.1
  | v :: us, p :: ps, h, i + 1, u, bs, hu, hp => PRd.at h.2 i u bs (by simpa using hu) (by simpa using hp)
theorem PRd.mono {w w' : World} (hk : ∀ (u : Value) (zs : List Int), Sl w u (zs.map (Value.int .u8)) → Sl w' u (zs.map (Value.int .u8))) : ∀ {us : List (Value × Value)} {ps : List Chg}, PRd w us ps → PRd w' us ps
  | [], [], _ => trivial
  | [], _ :: _, h => h.elim
  | _ :: _, [], h => h.elim
  | _ :: _, _ :: _, h => ⟨⟨hk _ _ h.1.1, hk _ _ h.1.2⟩, PRd.mono hk h.2⟩
theorem PRd.snoc {w : World} {u : Value × Value} {p : Chg} (hu : Sl w u.1 (p.1.map (Value.int .u8)) ∧ Sl w u.2 (p.2.map (Value.int .u8))) : ∀ {us : List (Value × Value)} {ps : List Chg}, PRd w us ps → PRd w (us ++ [u]) (ps ++ [p])
  | [], [], _ => ⟨hu, trivial⟩
  | [], _ :: _, h => h.elim
  | _ :: _, [], h => h.elim
  | _ :: _, _ :: _, h => ⟨h.1, PRd.snoc hu h.2⟩
theorem PRd.set {w : World} {u : Value × Value} {p : Chg} (hu : Sl w u.1 (p.1.map (Value.int .u8)) ∧ Sl w u.2 (p.2.map (Value.int .u8))) : ∀ {us : List (Value × Value)} {ps : List Chg} (k : Nat), PRd w us ps → PRd w (us.set k u) (ps.set k p)
  | [], [], _, _ => trivial
  | [], _ :: _, _, h => h.elim
  | _ :: _, [], _, h => h.elim
  | _ :: _, _ :: _, 0, h => ⟨hu, h.2⟩
  | _ :: _, _ :: _, k + 1, h => ⟨h.1, PRd.set hu k h.2⟩
theorem PRd.vals {w : World} {us : List (Value × Value)} {ps : List Chg} (h : PRd w us ps) : ∀ c ∈ flat2 us, ∃ a n c', c = .slice a n c' := by
  intro c hc
  obtain ⟨u, hu, hc⟩ := List.mem_flatMap.1 hc
  obtain ⟨i, hi, rfl⟩ := List.mem_iff_getElem.1 hu
  have hs := h.at i _ _ (List.getElem?_eq_getElem hi) (List.getElem?_eq_getElem (by rw [← h.len]; exact hi))
  simp only [List.mem_cons, List.not_mem_nil, or_false] at hc
  rcases hc with rfl | rfl
  · exact hs.1.val
  · exact hs.2.val
theorem PRd.noB {w : World} {us : List (Value × Value)} {ps : List Chg} (h : PRd w us ps) : ∀ (j : Nat) (n : Int), (flat2 us).toArray[j]? ≠ some (.int .u8 n) := by
  intro j n hj
  obtain ⟨a, m, c, he⟩ := h.vals _ (List.mem_of_getElem? (by simpa using hj))
  cases he

/-- A block of pairs is a batch. -/
theorem Bds.ofBlk {w : World} {g : Nat} {t : TypeId} {us : List (Value × Value)} {ps : List Chg} (h : Blk w g t (flat2 us).toArray) (hp : PRd w us ps) (n : Nat) (hn : n = ps.length) (hm : ps.length ≤ 1000000) : Bds w (.slice (some ⟨g, 0, none⟩) n n) ps := by
  subst hn
  refine ⟨_, _, rfl, Nat.le_refl _, by unfold maxLen; omega, fun _ => ⟨g, 0, rfl, h.lt, fun i p hi => ?_⟩⟩
  have hlt : i < ps.length := by
    rcases Nat.lt_or_ge i ps.length with h | h
    · exact h
    · rw [List.getElem?_eq_none h] at hi; cases hi
  have hu := List.getElem?_eq_getElem (l := us) (i := i) (by rw [hp.len]; exact hlt)
  have hg := flat2_get us i _ hu
  have hs := hp.at i _ p hu hi
  refine ⟨_, _, ?_, ?_, hs.1, hs.2⟩
  · rw [h.cell, Nat.zero_add]; simpa using hg.1
  · rw [h.cell, Nat.zero_add]; simpa using hg.2

/-! ### What reading a batch yields -/

abbrev RS := List Chg × List Int × Int
def rdStep (mi mk : Int) (s : RS) : RS := (s.1 ++ [((bI mi s.2.1 s.2.2).1, (bI mk (bI mi s.2.1 s.2.2).2.1 (bI mi s.2.1 s.2.2).2.2).1)], (bI mk (bI mi s.2.1 s.2.2).2.1 (bI mi s.2.1 s.2.2).2.2).2.1, (bI mk (bI mi s.2.1 s.2.2).2.1 (bI mi s.2.1 s.2.2).2.2).2.2)
def rdN (mi mk : Int) : Nat → RS → RS
  | 0, s => s
  | k + 1, s => rdStep mi mk (rdN mi mk k s)
def rdStart (bs : List Int) : RS := ([], (uI 32 bs 0).2.1, (uI 32 bs 0).2.2)
def rdAll (mi mk : Int) (bs : List Int) : RS := rdN mi mk (uI 32 bs 0).1.toNat (rdStart bs)
def readS (mi mk : Int) (bs : List Int) : RS := if (rdAll mi mk bs).2.2 = 0 then rdAll mi mk bs else ([], [], (rdAll mi mk bs).2.2)

theorem rdN_len (mi mk : Int) (k : Nat) (s : RS) : (rdN mi mk k s).1.length = s.1.length + k := by
  induction k with
  | zero => rfl
  | succ k ih => show ((rdN mi mk k s).1 ++ [_]).length = _; rw [List.length_append, ih]; simp; omega
theorem rdN_left (mi mk : Int) (k : Nat) (s : RS) (bs : List Int) (h : s.2.1 = [] ∨ s.2.1 <:+ bs) : (rdN mi mk k s).2.1 = [] ∨ (rdN mi mk k s).2.1 <:+ bs := by
  induction k with
  | zero => exact h
  | succ k ih => exact suf_or (bI_left _ _ _) (suf_or (bI_left _ _ _) ih)
theorem rdN_isB (mi mk : Int) (k : Nat) (s : RS) (h1 : ∀ p ∈ s.1, IsB p.1 ∧ IsB p.2) (h2 : IsB s.2.1) : (∀ p ∈ (rdN mi mk k s).1, IsB p.1 ∧ IsB p.2) ∧ IsB (rdN mi mk k s).2.1 := by
  induction k with
  | zero => exact ⟨h1, h2⟩
  | succ k ih =>
    refine ⟨fun p hp => ?_, suf_isB (bI_left _ _ _) (suf_isB (bI_left _ _ _) ih.2)⟩
    rcases List.mem_append.1 hp with hp | hp
    · exact ih.1 p hp
    · simp only [List.mem_singleton] at hp
      subst hp
      exact ⟨bI_isB _ _ _ ih.2, bI_isB _ _ _ (suf_isB (bI_left _ _ _) ih.2)⟩
theorem uI32 (bs : List Int) (hB : IsB bs) : (uI 32 bs 0).1.toNat ≤ 32 := by
  have := uI_val 32 bs 0 hB
  by_cases h : (uI 32 bs 0).2.2 = 0
  · have := this.2.2.1 h; omega
  · have := this.2.2.2 h; omega
theorem rdAll_isB (mi mk : Int) (bs : List Int) (hB : IsB bs) : (∀ p ∈ (rdAll mi mk bs).1, IsB p.1 ∧ IsB p.2) ∧ IsB (rdAll mi mk bs).2.1 :=
  rdN_isB mi mk _ _ (by intro p hp; cases hp) (suf_isB (uI_left _ _ _) hB)
theorem readS_isB (mi mk : Int) (bs : List Int) (hB : IsB bs) : (∀ p ∈ (readS mi mk bs).1, IsB p.1 ∧ IsB p.2) ∧ IsB (readS mi mk bs).2.1 := by
  unfold readS
  split
  · exact rdAll_isB mi mk bs hB
  · exact ⟨(by intro p hp; cases hp), (by intro x hx; cases hx)⟩

end Go.Proofs.Ytpdajglcpkfonaa
