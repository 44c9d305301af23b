/- How a batch that came in is opened, and the parameters. -/
import Derived.Test.YtpdajglcpkfonaaBnd
import Derived.ProofKit
import Derived.OpenShut
import Derived.Deep.Slices
import Derived.Deep.Fields
import Derived.ChangeSame
import Derived.Lib.SmallJoins
namespace Go.Proofs.Ytpdajglcpkfonaa
open Go.ChangeShapes Go.WideShapes Go.Deep
set_option linter.unusedVariables false
variable {H : Type} {enc : TypeId × Value → H} {W : World} {held : Bool} {fuel : Nat} {x : DataW H × List MemPlace}

theorem bytes_opened {v : Value} (h : DataW.trod enc Try.prog W 0 (fun _ => true) held fuel 23 [v] = some x) :
    ∃ bs : List Int, Sl W v (bs.map (Value.int .u8)) ∧ ∀ n ∈ bs, (Lit.int .u8 n).wf = true := by
  rcases open_ints Try.underlying23 Try.underlying5 (by kernel_rfl) h with ⟨hcs, _⟩ | ⟨a, l, c, zs, hcs, _, hl, hm, hz, _, hcell, hw⟩
  · obtain rfl : v = .slice none 0 0 := by simpa using hcs
    exact ⟨[], Sl.nil _, by simp⟩
  · obtain rfl : v = .slice (some a) l c := by simpa using hcs
    exact ⟨zs.take l, Sl.opened hl hm (by simpa using hz) hcell, fun n hn => hw n (List.mem_of_mem_take hn)⟩

theorem Bds.opened {a : Option Addr} {len cap : Nat} (h : DataW.trod enc Try.prog W 0 (fun _ => true) held fuel 50 [.slice a len cap] = some x) :
    ∃ l : List Chg, Bds W (.slice a len cap) l ∧ ∀ p ∈ l, (∀ n ∈ p.1, (Lit.int .u8 n).wf = true) ∧ (∀ n ∈ p.2, (Lit.int .u8 n).wf = true) := by
  rcases open_slice Try.underlying50 h with ⟨hcs, _⟩ | ⟨ad, n, c, m, fu, D, Pl, hcs, _, hl, hm, hmm, _, hi⟩
  · obtain ⟨rfl, rfl, rfl⟩ : a = none ∧ len = 0 ∧ cap = 0 := by simpa using hcs
    exact ⟨[], Bds.nil _, by simp⟩
  · obtain ⟨rfl, rfl, rfl⟩ : a = some ad ∧ len = n ∧ cap = c := by simpa using hcs
    have each : ∀ i, ∃ p : Chg, i < len → ((∀ n ∈ p.1, (Lit.int .u8 n).wf = true) ∧ (∀ n ∈ p.2, (Lit.int .u8 n).wf = true)) ∧ ∃ u1 u2, W.cell? (ad.add (i * 2)) = some u1 ∧ W.cell? (ad.add (i * 2 + 1)) = some u2 ∧
        Sl W u1 (p.1.map (Value.int .u8)) ∧ Sl W u2 (p.2.map (Value.int .u8)) := by
      intro i
      by_cases hin : i < len
      · obtain ⟨cs', hc, ht⟩ := hi i (by rw [hmm]; simp; omega)
        rw [show Try.prog.cellsOf 74 = 2 by kernel_rfl] at hc
        obtain ⟨_, hcl, hat⟩ := World.cells?_some hc
        match cs', hcl with
        | [c0, c1], _ =>
          have e0 := hat 0 (by omega)
          have e1 := hat 1 (by omega)
          rw [add_add] at e0 e1
          obtain ⟨y0, y1, n', _, _, h0, h1⟩ := trod_struct2 Try.underlying74 ht
          rw [show Try.prog.cellsOf 23 = 1 by kernel_rfl] at h0 h1
          obtain ⟨b0, s0, w0⟩ := bytes_opened (v := c0) (by simpa using h0)
          obtain ⟨b1, s1, w1⟩ := bytes_opened (v := c1) (by simpa using h1)
          exact ⟨(b0, b1), fun _ => ⟨⟨w0, w1⟩, c0, c1, by simpa using e0, by simpa using e1, s0, s1⟩⟩
      · exact ⟨([], []), fun h => absurd h hin⟩
    obtain ⟨f, hf⟩ : ∃ f : Nat → Chg, ∀ i, i < len → ((∀ n ∈ (f i).1, (Lit.int .u8 n).wf = true) ∧ (∀ n ∈ (f i).2, (Lit.int .u8 n).wf = true)) ∧ ∃ u1 u2, W.cell? (ad.add (i * 2)) = some u1 ∧ W.cell? (ad.add (i * 2 + 1)) = some u2 ∧
        Sl W u1 ((f i).1.map (Value.int .u8)) ∧ Sl W u2 ((f i).2.map (Value.int .u8)) := ⟨fun i => Classical.choose (each i), fun i => Classical.choose_spec (each i)⟩
    refine ⟨(List.range len).map f, ⟨some ad, cap, by simp, by simpa using hl, hm, fun hp => ?_⟩, fun p hp => ?_⟩
    · have hp : 0 < len := by simpa using hp
      obtain ⟨b, off, spot⟩ := ad
      obtain ⟨_, u1, u2, c1, _⟩ := hf 0 hp
      have hspot : spot = none := by simpa [Addr.add] using World.cell?_spot c1
      subst hspot
      have hadd : ∀ k, (⟨b, off, none⟩ : Addr).add k = ⟨b, off + k, none⟩ := fun k => by simp only [Addr.add]; split <;> simp_all
      refine ⟨b, off, rfl, ?_, fun i p hi => ?_⟩
      · rcases Nat.lt_or_ge b W.heap.size with h | h
        · exact h
        · simp [Addr.add, World.cell?, Array.getElem?_eq_none h] at c1
      · have hil : i < len := by
          rcases Nat.lt_or_ge i len with h | h
          · exact h
          · rw [List.getElem?_eq_none (by simpa using h)] at hi; cases hi
        rw [List.getElem?_map, List.getElem?_range hil] at hi
        simp only [Option.map_some, Option.some.injEq] at hi
        subst hi
        obtain ⟨_, u1, u2, c1, c2, s1, s2⟩ := hf i hil
        rw [hadd] at c1 c2
        exact ⟨u1, u2, c1, by rw [Nat.add_assoc]; exact c2, s1, s2⟩
    · obtain ⟨i, hi, rfl⟩ := List.mem_map.1 hp
      exact (hf i (by simpa using hi)).1

set_option maxRecDepth 100000 in
theorem params_opened {r : Reach} {b0 : Nat} {v : Value} {d : DataW H} {p : List MemPlace} (hv : Value.okWide Try.prog W r b0 49 v) (h : DataW.Trod enc Try.prog W 0 (fun _ => true) held 49 v d p) :
    ∃ p0 p1 p2 p3 p4 p5 p6 p7 : Int, v = .agg #[.int .i64 p0, .int .i64 p1, .int .i64 p2, .int .i64 p3, .int .i64 p4, .int .i64 p5, .int .i64 p6, .int .i64 p7] := by
  obtain ⟨cs, rfl, hsz⟩ := okWide_struct Try.underlying49 hv
  have hsz := hsz.trans (show Try.prog.cellsOf 49 = 8 by kernel_rfl)
  obtain ⟨l⟩ := cs
  match l, hsz with
  | [c0, c1, c2, c3, c4, c5, c6, c7], _ =>
    obtain ⟨fu, hf⟩ := h
    obtain ⟨xs, n, _, hx, _, hlen, hg⟩ := DataW.trod_struct Try.underlying49 hf
    have hone : Try.prog.cellsOf 3 = 1 := by kernel_rfl
    have key : ∀ (c : Value) (y : DataW H × List MemPlace), DataW.trod enc Try.prog W 0 (fun _ => true) held n 3 [c] = some y → ∃ z : Int, c = .int .i64 z := fun c y hy => by
      obtain ⟨z, hz, _⟩ := DataW.trod_int Try.underlying3 hy
      exact ⟨z, by simpa using hz⟩
    match xs, hlen with
    | [y0, y1, y2, y3, y4, y5, y6, y7], _ =>
      obtain ⟨z0, rfl⟩ := key c0 y0 (by simpa [Value.cells, hone] using hg 0 _ rfl)
      obtain ⟨z1, rfl⟩ := key c1 y1 (by simpa [Value.cells, hone] using hg 1 _ rfl)
      obtain ⟨z2, rfl⟩ := key c2 y2 (by simpa [Value.cells, hone] using hg 2 _ rfl)
      obtain ⟨z3, rfl⟩ := key c3 y3 (by simpa [Value.cells, hone] using hg 3 _ rfl)
      obtain ⟨z4, rfl⟩ := key c4 y4 (by simpa [Value.cells, hone] using hg 4 _ rfl)
      obtain ⟨z5, rfl⟩ := key c5 y5 (by simpa [Value.cells, hone] using hg 5 _ rfl)
      obtain ⟨z6, rfl⟩ := key c6 y6 (by simpa [Value.cells, hone] using hg 6 _ rfl)
      obtain ⟨z7, rfl⟩ := key c7 y7 (by simpa [Value.cells, hone] using hg 7 _ rfl)
      exact ⟨z0, z1, z2, z3, z4, z5, z6, z7, rfl⟩

set_option maxRecDepth 100000 in
theorem Bd.opened {r : Reach} {b0 : Nat} {v : Value} {d : DataW H} {p : List MemPlace} (hv : Value.okWide Try.prog W r b0 74 v) (h : DataW.Trod enc Try.prog W 0 (fun _ => true) held 74 v d p) :
    ∃ c : Chg, Bd W v c ∧ (∀ n ∈ c.1, (Lit.int .u8 n).wf = true) ∧ (∀ n ∈ c.2, (Lit.int .u8 n).wf = true) := by
  obtain ⟨v0, v1, y0, y1, n, rfl, _, _, h0, h1⟩ := Go.Joins.open_agg2 Try.underlying74 (by kernel_rfl) (by kernel_rfl) hv h
  obtain ⟨b0', s0, w0⟩ := bytes_opened h0
  obtain ⟨b1', s1, w1⟩ := bytes_opened h1
  exact ⟨(b0', b1'), ⟨v0, v1, rfl, s0, s1⟩, w0, w1⟩

end Go.Proofs.Ytpdajglcpkfonaa
