/- How a batch that came in is opened, and the parameters. How a [][]byte that came in is opened. How rows of rows that came in are opened: a slice whose elements are slices; batches, lists of lists of texts. -/
import Derived.Test.YtililoojjfcfgaaDoorFcG
import Derived.ProofKit
import Derived.OpenShut
import Derived.Deep.Slices
import Derived.Deep.Fields
import Derived.ChangeSame
import Derived.Lib.SmallJoins
import Derived.Test.YtililoojjfcfgaaDoorTextA
import Derived.Deep.Matrix
import Derived.Test.YtililoojjfcfgaaDoorFcK
namespace Go.Proofs.YtililoojjfcfgaaDoor
open Go.ChangeShapes Go.WideShapes Go.Deep
set_option linter.unusedVariables false
variable {H : Type} {enc : TypeId × Value → H} {W : World} {held : Bool} {fuel : Nat} {x : DataW H × List MemPlace}

theorem bytes_opened {v : Value} (h : DataW.trod enc Tryd.prog W 0 (fun _ => true) held fuel 22 [v] = some x) :
    ∃ bs : List Int, Sl W v (bs.map (Value.int .u8)) ∧ ∀ n ∈ bs, (Lit.int .u8 n).wf = true := by
  rcases open_ints Tryd.underlying22 Tryd.underlying5 (by kernel_rfl) h with ⟨hcs, _⟩ | ⟨a, l, c, zs, hcs, _, hl, hm, hz, _, hcell, hw⟩
  · obtain rfl : v = .slice none 0 0 := by simpa using hcs
    exact ⟨[], Sl.nil _, by simp⟩
  · obtain rfl : v = .slice (some a) l c := by simpa using hcs
    exact ⟨zs.take l, Sl.opened hl hm (by simpa using hz) hcell, fun n hn => hw n (List.mem_of_mem_take hn)⟩

theorem Bds.opened {a : Option Addr} {len cap : Nat} (h : DataW.trod enc Tryd.prog W 0 (fun _ => true) held fuel 107 [.slice a len cap] = some x) :
    ∃ l : List Chg, Bds W (.slice a len cap) l ∧ ∀ p ∈ l, (∀ n ∈ p.1, (Lit.int .u8 n).wf = true) ∧ (∀ n ∈ p.2, (Lit.int .u8 n).wf = true) := by
  rcases open_slice Tryd.underlying107 h with ⟨hcs, _⟩ | ⟨ad, n, c, m, fu, D, Pl, hcs, _, hl, hm, hmm, _, hi⟩
  · obtain ⟨rfl, rfl, rfl⟩ : a = none ∧ len = 0 ∧ cap = 0 := by simpa using hcs
    exact ⟨[], Bds.nil _, by simp⟩
  · obtain ⟨rfl, rfl, rfl⟩ : a = some ad ∧ len = n ∧ cap = c := by simpa using hcs
    have each : ∀ i, ∃ p : Chg, i < len → ((∀ n ∈ p.1, (Lit.int .u8 n).wf = true) ∧ (∀ n ∈ p.2, (Lit.int .u8 n).wf = true)) ∧ ∃ u1 u2, W.cell? (ad.add (i * 2)) = some u1 ∧ W.cell? (ad.add (i * 2 + 1)) = some u2 ∧
        Sl W u1 (p.1.map (Value.int .u8)) ∧ Sl W u2 (p.2.map (Value.int .u8)) := by
      intro i
      by_cases hin : i < len
      · obtain ⟨cs', hc, ht⟩ := hi i (by rw [hmm]; simp; omega)
        rw [show Tryd.prog.cellsOf 151 = 2 by kernel_rfl] at hc
        obtain ⟨_, hcl, hat⟩ := World.cells?_some hc
        match cs', hcl with
        | [c0, c1], _ =>
          have e0 := hat 0 (by omega)
          have e1 := hat 1 (by omega)
          rw [add_add] at e0 e1
          obtain ⟨y0, y1, n', _, _, h0, h1⟩ := trod_struct2 Tryd.underlying151 ht
          rw [show Tryd.prog.cellsOf 22 = 1 by kernel_rfl] at h0 h1
          obtain ⟨b0, s0, w0⟩ := bytes_opened (v := c0) (by simpa using h0)
          obtain ⟨b1, s1, w1⟩ := bytes_opened (v := c1) (by simpa using h1)
          exact ⟨(b0, b1), fun _ => ⟨⟨w0, w1⟩, c0, c1, by simpa using e0, by simpa using e1, s0, s1⟩⟩
      · exact ⟨([], []), fun h => absurd h hin⟩
    obtain ⟨f, hf⟩ : ∃ f : Nat → Chg, ∀ i, i < len → ((∀ n ∈ (f i).1, (Lit.int .u8 n).wf = true) ∧ (∀ n ∈ (f i).2, (Lit.int .u8 n).wf = true)) ∧ ∃ u1 u2, W.cell? (ad.add (i * 2)) = some u1 ∧ W.cell? (ad.add (i * 2 + 1)) = some u2 ∧
        Sl W u1 ((f i).1.map (Value.int .u8)) ∧ Sl W u2 ((f i).2.map (Value.int .u8)) := ⟨fun i => Classical.choose (each i), fun i => Classical.choose_spec (each i)⟩
    refine ⟨(List.range len).map f, ⟨some ad, cap, by simp, by simpa using hl, hm, fun hp => ?_⟩, fun p hp => ?_⟩
    · have hp : 0 < len := by simpa using hp
      obtain ⟨b, off, spot⟩ := ad
      obtain ⟨_, u1, u2, c1, _⟩ := hf 0 hp
      have hspot : spot = none := by simpa [Addr.add] using World.cell?_spot c1
      subst hspot
      have hadd : ∀ k, (⟨b, off, none⟩ : Addr).add k = ⟨b, off + k, none⟩ := fun k => by simp only [Addr.add]; split <;> simp_all
      refine ⟨b, off, rfl, ?_, fun i p hi => ?_⟩
      · rcases Nat.lt_or_ge b W.heap.size with h | h
        · exact h
        · simp [Addr.add, World.cell?, Array.getElem?_eq_none h] at c1
      · have hil : i < len := by
          rcases Nat.lt_or_ge i len with h | h
          · exact h
          · rw [List.getElem?_eq_none (by simpa using h)] at hi; cases hi
        rw [List.getElem?_map, List.getElem?_range hil] at hi
        simp only [Option.map_some, Option.some.injEq] at hi
        subst hi
        obtain ⟨_, u1, u2, c1, c2, s1, s2⟩ := hf i hil
        rw [hadd] at c1 c2
        exact ⟨u1, u2, c1, by rw [Nat.add_assoc]; exact c2, s1, s2⟩
    · obtain ⟨i, hi, rfl⟩ := List.mem_map.1 hp
      exact (hf i (by simpa using hi)).1


set_option maxRecDepth 100000 in
theorem Bd.opened {r : Reach} {b0 : Nat} {v : Value} {d : DataW H} {p : List MemPlace} (hv : Value.okWide Tryd.prog W r b0 151 v) (h : DataW.Trod enc Tryd.prog W 0 (fun _ => true) held 151 v d p) :
    ∃ c : Chg, Bd W v c ∧ (∀ n ∈ c.1, (Lit.int .u8 n).wf = true) ∧ (∀ n ∈ c.2, (Lit.int .u8 n).wf = true) := by
  obtain ⟨v0, v1, y0, y1, n, rfl, _, _, h0, h1⟩ := Go.Joins.open_agg2 Tryd.underlying151 (by kernel_rfl) (by kernel_rfl) hv h
  obtain ⟨b0', s0, w0⟩ := bytes_opened h0
  obtain ⟨b1', s1, w1⟩ := bytes_opened h1
  exact ⟨(b0', b1'), ⟨v0, v1, rfl, s0, s1⟩, w0, w1⟩

end Go.Proofs.YtililoojjfcfgaaDoor

namespace Go.Proofs.YtililoojjfcfgaaDoor
open Go.RowKit
set_option linter.unusedVariables false

theorem Sls.opened {W : World} {a : Addr} {base len cap : Nat} {A : Nat → Option Addr} {L C : Nat → Nat} {Z : Nat → List Int} (hl : len ≤ cap) (hm : cap ≤ maxLen)
    (hrow : ∀ r, r < cap → W.cell? (a.add r) = some (.slice (A r) (L r) (C r)) ∧ L r ≤ C r ∧ C r ≤ maxLen ∧ (Z r).length = C r ∧ (∀ n ∈ Z r, (Lit.int .u8 n).wf = true) ∧ (A r = none → C r = 0) ∧
      ∀ a', A r = some a' → base ≤ a'.block ∧ ∀ c, c < C r → W.cell? (a'.add c) = some (.int .u8 ((Z r).getD c 0))) :
    Sls W (.slice (some a) len cap) ((List.range len).map fun r => (Z r).take (L r)) := by
  refine ⟨(List.range len).map fun r => .slice (A r) (L r) (C r), ?_, by simp, fun i u bs hu hp => ?_⟩
  · have hlen : ((List.range len).map fun r => Value.slice (A r) (L r) (C r)).length = len := by simp
    refine ⟨some a, cap, by rw [hlen], by rw [hlen]; exact hl, hm, fun hp => ?_⟩
    rw [hlen] at hp
    obtain ⟨b, off, spot⟩ := a
    have h0 := (hrow 0 (by omega)).1
    have hspot : spot = none := by simpa [Addr.add] using World.cell?_spot h0
    subst hspot
    refine ⟨b, off, rfl, ?_, fun j u hu => ?_⟩
    · rcases Nat.lt_or_ge b W.heap.size with h | h
      · exact h
      · simp [Addr.add, World.cell?, Array.getElem?_eq_none h] at h0
    · have hj : j < len := by
        rcases Nat.lt_or_ge j len with h | h
        · exact h
        · rw [List.getElem?_eq_none (by omega)] at hu; cases hu
      rw [List.getElem?_map, List.getElem?_range hj] at hu
      simp only [Option.map_some, Option.some.injEq] at hu
      subst hu
      have h1 := (hrow j (by omega)).1
      have e : (⟨b, off, none⟩ : Addr).add j = ⟨b, off + j, none⟩ := by
        simp only [Addr.add]; split <;> simp_all
      rw [e] at h1
      exact h1
  · have hi : i < len := by
      rcases Nat.lt_or_ge i len with h | h
      · exact h
      · rw [List.getElem?_eq_none (by simpa using h)] at hu; cases hu
    rw [List.getElem?_map, List.getElem?_range hi] at hu hp
    simp only [Option.map_some, Option.some.injEq] at hu hp
    subst hu hp
    obtain ⟨_, h1, h2, h3, _, h5, h6⟩ := hrow i (by omega)
    cases hA : A i with
    | none =>
      have hc := h5 hA
      have hz : Z i = [] := List.length_eq_zero_iff.1 (by omega)
      rw [hz, hc, show L i = 0 by omega]
      exact Sl.nil W
    | some a' => exact Sl.opened h1 h2 h3 (fun c hc => (h6 a' hA).2 c (by omega))

theorem opened_isB {W : World} {a : Addr} {base len cap : Nat} {A : Nat → Option Addr} {L C : Nat → Nat} {Z : Nat → List Int} (hl : len ≤ cap)
    (hrow : ∀ r, r < cap → W.cell? (a.add r) = some (.slice (A r) (L r) (C r)) ∧ L r ≤ C r ∧ C r ≤ maxLen ∧ (Z r).length = C r ∧ (∀ n ∈ Z r, (Lit.int .u8 n).wf = true) ∧ (A r = none → C r = 0) ∧
      ∀ a', A r = some a' → base ≤ a'.block ∧ ∀ c, c < C r → W.cell? (a'.add c) = some (.int .u8 ((Z r).getD c 0))) :
    ∀ p ∈ (List.range len).map (fun r => (Z r).take (L r)), ∀ n ∈ p, (Lit.int .u8 n).wf = true := by
  intro p hp n hn
  obtain ⟨r, hr, rfl⟩ := List.mem_map.1 hp
  have hr : r < len := by simpa using hr
  exact (hrow r (by omega)).2.2.2.2.1 n (List.mem_of_mem_take hn)

end Go.Proofs.YtililoojjfcfgaaDoor

namespace Go.Proofs.YtililoojjfcfgaaDoor
open Go.ChangeShapes Go.WideShapes Go.Deep
set_option linter.unusedVariables false
variable {H : Type} {enc : TypeId × Value → H} {W : World} {held : Bool} {fuel : Nat} {x : DataW H × List MemPlace}

/-- A slice of elements of one cell, each of which is opened as a thing. -/
theorem rows_opened {α : Type} (d : α) {t e : TypeId} (ht : Tryd.prog.underlying t = some (.slice e)) (h1 : Tryd.prog.cellsOf e = 1) (R : Value → α → Prop)
    (hR : ∀ (v : Value) (fu : Nat) (y : DataW H × List MemPlace), DataW.trod enc Tryd.prog W 0 (fun _ => true) held fu e [v] = some y → ∃ z, R v z) {a : Option Addr} {len cap : Nat}
    (h : DataW.trod enc Tryd.prog W 0 (fun _ => true) held fuel t [.slice a len cap] = some x) :
    ∃ (vs : List Value) (zs : List α), Sl W (.slice a len cap) vs ∧ vs.length = zs.length ∧ (∀ (i : Nat) u z, vs[i]? = some u → zs[i]? = some z → R u z) ∧ ∀ z ∈ zs, ∃ u, R u z := by
  rcases open_slice ht h with ⟨hcs, _⟩ | ⟨ad, n, c, m, fu, D, Pl, hcs, _, hl, hm, hmm, _, hi⟩
  · obtain ⟨rfl, rfl, rfl⟩ : a = none ∧ len = 0 ∧ cap = 0 := by simpa using hcs
    exact ⟨[], [], Sl.nil _, rfl, fun i u z hu => by simp at hu, by simp⟩
  · obtain ⟨rfl, rfl, rfl⟩ : a = some ad ∧ len = n ∧ cap = c := by simpa using hcs
    have each : ∀ i, ∃ p : Value × α, i < len → W.cell? (ad.add i) = some p.1 ∧ R p.1 p.2 := by
      intro i
      by_cases hin : i < len
      · obtain ⟨cs', hc, htr⟩ := hi i (by rw [hmm]; simp; omega)
        rw [h1] at hc
        obtain ⟨_, hcl, hat⟩ := World.cells?_some hc
        match cs', hcl with
        | [c0], _ =>
          have e0 := hat 0 (by omega)
          rw [add_add] at e0
          obtain ⟨z, hz⟩ := hR c0 _ _ htr
          exact ⟨(c0, z), fun _ => ⟨by simpa using e0, hz⟩⟩
      · exact ⟨(undef, d), fun h => absurd h hin⟩
    obtain ⟨f, hf⟩ : ∃ f : Nat → Value × α, ∀ i, i < len → W.cell? (ad.add i) = some (f i).1 ∧ R (f i).1 (f i).2 := ⟨fun i => Classical.choose (each i), fun i => Classical.choose_spec (each i)⟩
    refine ⟨(List.range len).map fun i => (f i).1, (List.range len).map fun i => (f i).2, ⟨some ad, cap, by simp, by simpa using hl, hm, fun hp => ?_⟩, by simp, fun i u z hu hz => ?_, fun z hz => ?_⟩
    · have hp : 0 < len := by simpa using hp
      obtain ⟨b, off, spot⟩ := ad
      have c1 := (hf 0 hp).1
      have hspot : spot = none := by simpa [Addr.add] using World.cell?_spot c1
      subst hspot
      have hadd : ∀ k, (⟨b, off, none⟩ : Addr).add k = ⟨b, off + k, none⟩ := fun k => by simp only [Addr.add]; split <;> simp_all
      refine ⟨b, off, rfl, ?_, fun i p hi => ?_⟩
      · rcases Nat.lt_or_ge b W.heap.size with h | h
        · exact h
        · simp [Addr.add, World.cell?, Array.getElem?_eq_none h] at c1
      · have hil : i < len := by
          rcases Nat.lt_or_ge i len with h | h
          · exact h
          · rw [List.getElem?_eq_none (by simpa using h)] at hi; cases hi
        rw [List.getElem?_map, List.getElem?_range hil] at hi
        simp only [Option.map_some, Option.some.injEq] at hi
        subst hi
        rw [← hadd]
        exact (hf i hil).1
    · have hil : i < len := by
        rcases Nat.lt_or_ge i len with h | h
        · exact h
        · rw [List.getElem?_eq_none (by simpa using h)] at hu; cases hu
      rw [List.getElem?_map, List.getElem?_range hil] at hu hz
      simp only [Option.map_some, Option.some.injEq] at hu hz
      subst hu hz
      exact (hf i hil).2
    · obtain ⟨i, hi, rfl⟩ := List.mem_map.1 hz
      exact ⟨_, (hf i (by simpa using hi)).2⟩

theorem Bds.openedV {v : Value} (h : DataW.trod enc Tryd.prog W 0 (fun _ => true) held fuel 107 [v] = some x) :
    ∃ l : List Chg, Bds W v l ∧ ∀ p ∈ l, (∀ n ∈ p.1, (Lit.int .u8 n).wf = true) ∧ (∀ n ∈ p.2, (Lit.int .u8 n).wf = true) := by
  rcases open_slice Tryd.underlying107 h with ⟨hcs, _⟩ | ⟨ad, n, c, m, fu, D, Pl, hcs, _⟩
  · obtain rfl : v = .slice none 0 0 := by simpa using hcs
    exact Bds.opened h
  · obtain rfl : v = .slice (some ad) n c := by simpa using hcs
    exact Bds.opened h

/-- Batches that came in. -/
theorem Bdss.opened {a : Option Addr} {len cap : Nat} (h : DataW.trod enc Tryd.prog W 0 (fun _ => true) held fuel 36 [.slice a len cap] = some x) :
    ∃ ll : List (List Chg), Bdss W (.slice a len cap) ll ∧ ∀ l ∈ ll, ∀ p ∈ l, (∀ n ∈ p.1, (Lit.int .u8 n).wf = true) ∧ (∀ n ∈ p.2, (Lit.int .u8 n).wf = true) := by
  obtain ⟨vs, zs, h1, h2, h3, h4⟩ := rows_opened (α := List Chg) [] Tryd.underlying36 (by kernel_rfl) (fun v l => Bds W v l ∧ ∀ p ∈ l, (∀ n ∈ p.1, (Lit.int .u8 n).wf = true) ∧ (∀ n ∈ p.2, (Lit.int .u8 n).wf = true)) (fun v fu y hy => Bds.openedV hy) h
  exact ⟨zs, ⟨vs, h1, h2, fun i u l hu hl => (h3 i u l hu hl).1⟩, fun l hl => (h4 l hl).elim fun u h => h.2⟩

theorem Sls.openedV {v : Value} (h : DataW.trod enc Tryd.prog W 0 (fun _ => true) held fuel 23 [v] = some x) :
    ∃ l : List (List Int), Sls W v l ∧ ∀ p ∈ l, ∀ n ∈ p, (Lit.int .u8 n).wf = true := by
  rcases open_int_rows Tryd.underlying23 Tryd.underlying22 Tryd.underlying5 (by kernel_rfl) (by kernel_rfl) h with ⟨hcs, _⟩ | ⟨y, l, c, AA, LL, CC, ZZ, hcs, _, hl, hm, hx, hrow⟩
  · obtain rfl : v = .slice none 0 0 := by simpa using hcs
    exact ⟨[], ⟨[], Sl.nil _, rfl, fun i u bs hu _ => by simp at hu⟩, by simp⟩
  · obtain rfl : v = .slice (some y) l c := by simpa using hcs
    exact ⟨_, Sls.opened hl hm hrow, opened_isB hl hrow⟩

/-- Lists of lists of texts that came in. -/
theorem Slss.opened {a : Option Addr} {len cap : Nat} (h : DataW.trod enc Tryd.prog W 0 (fun _ => true) held fuel 38 [.slice a len cap] = some x) :
    ∃ ll : List (List (List Int)), Slss W (.slice a len cap) ll ∧ ∀ l ∈ ll, ∀ p ∈ l, ∀ n ∈ p, (Lit.int .u8 n).wf = true := by
  obtain ⟨vs, zs, h1, h2, h3, h4⟩ := rows_opened (α := List (List Int)) [] Tryd.underlying38 (by kernel_rfl) (fun v l => Sls W v l ∧ ∀ p ∈ l, ∀ n ∈ p, (Lit.int .u8 n).wf = true) (fun v fu y hy => Sls.openedV hy) h
  exact ⟨zs, ⟨vs, h1, h2, fun i u l hu hl => (h3 i u l hu hl).1⟩, fun l hl => (h4 l hl).elim fun u h => h.2⟩

end Go.Proofs.YtililoojjfcfgaaDoor
