/- How a batch that came in is opened, with the bound of the second form. -/
import Derived.Test.YtpdajglcpkfonaaBndR
import Derived.Test.YtpdajglcpkfonaaBulk
namespace Go.Proofs.Ytpdajglcpkfonaa
open Go.ChangeShapes Go.WideShapes Go.Deep
set_option linter.unusedVariables false
variable {H : Type} {enc : TypeId × Value → H} {W : World} {held : Bool} {fuel : Nat} {x : DataW H × List MemPlace}

theorem bytes_openedU {v : Value} (h : DataW.trod enc Try.prog W 0 (fun _ => true) held fuel 23 [v] = some x) :
    ∃ bs : List Int, Sl W v (bs.map (Value.int .u8)) ∧ (∀ n ∈ bs, (Lit.int .u8 n).wf = true) ∧ bs.length ≤ Rows.uptoBulk x.1 := by
  rcases open_ints Try.underlying23 Try.underlying5 (by kernel_rfl) h with ⟨hcs, _⟩ | ⟨a, l, c, zs, hcs, _, hl, hm, hz, hxd, hcell, hw⟩
  · obtain rfl : v = .slice none 0 0 := by simpa using hcs
    exact ⟨[], Sl.nil _, by simp, by simp⟩
  · obtain rfl : v = .slice (some a) l c := by simpa using hcs
    exact ⟨zs.take l, Sl.opened hl hm (by simpa using hz) hcell, fun n hn => hw n (List.mem_of_mem_take hn), by rw [hxd]; exact bulks.lits_le rfl⟩

theorem Bds.openedU {a : Option Addr} {len cap : Nat} (h : DataW.trod enc Try.prog W 0 (fun _ => true) held fuel 50 [.slice a len cap] = some x) :
    ∃ l : List Chg, Bds W (.slice a len cap) l ∧ ∀ p ∈ l, ((∀ n ∈ p.1, (Lit.int .u8 n).wf = true) ∧ (∀ n ∈ p.2, (Lit.int .u8 n).wf = true)) ∧ p.1.length ≤ Rows.uptoBulk x.1 ∧ p.2.length ≤ Rows.uptoBulk x.1 := by
  rcases open_slice Try.underlying50 h with ⟨hcs, _⟩ | ⟨ad, n, c, m, fu, D, Pl, hcs, _, hl, hm, hmm, hxd, hi⟩
  · obtain ⟨rfl, rfl, rfl⟩ : a = none ∧ len = 0 ∧ cap = 0 := by simpa using hcs
    exact ⟨[], Bds.nil _, by simp⟩
  · obtain ⟨rfl, rfl, rfl⟩ : a = some ad ∧ len = n ∧ cap = c := by simpa using hcs
    have each : ∀ i, ∃ p : Chg, i < len → (((∀ n ∈ p.1, (Lit.int .u8 n).wf = true) ∧ (∀ n ∈ p.2, (Lit.int .u8 n).wf = true)) ∧ p.1.length ≤ Rows.uptoBulk x.1 ∧ p.2.length ≤ Rows.uptoBulk x.1) ∧ ∃ u1 u2, W.cell? (ad.add (i * 2)) = some u1 ∧ W.cell? (ad.add (i * 2 + 1)) = some u2 ∧
        Sl W u1 (p.1.map (Value.int .u8)) ∧ Sl W u2 (p.2.map (Value.int .u8)) := by
      intro i
      by_cases hin : i < len
      · obtain ⟨cs', hc, ht⟩ := hi i (by rw [hmm]; simp; omega)
        rw [show Try.prog.cellsOf 74 = 2 by kernel_rfl] at hc
        obtain ⟨_, hcl, hat⟩ := World.cells?_some hc
        match cs', hcl with
        | [c0, c1], _ =>
          have e0 := hat 0 (by omega)
          have e1 := hat 1 (by omega)
          rw [add_add] at e0 e1
          obtain ⟨y0, y1, n', hyd, _, h0, h1⟩ := trod_struct2 Try.underlying74 ht
          rw [show Try.prog.cellsOf 23 = 1 by kernel_rfl] at h0 h1
          obtain ⟨b0, s0, w0, l0⟩ := bytes_openedU (v := c0) (by simpa using h0)
          obtain ⟨b1, s1, w1, l1⟩ := bytes_openedU (v := c1) (by simpa using h1)
          have hD : D i = .agg [y0.1, y1.1] := (Prod.mk.inj hyd).1
          have hle := bulks.elem_le (l := (List.range len).map D) (r := (List.range (m - len)).map fun j => D (len + j)) (List.mem_map_of_mem (f := D) (List.mem_range.2 hin))
          rw [hD] at hle
          simp only [Rows.uptoBulk, Rows.uptoBulkAll] at hle
          have hx1 : Rows.uptoBulk x.1 = Rows.uptoBulk (DataW.slice ((List.range len).map D) ((List.range (m - len)).map fun j => D (len + j))) := by rw [hxd]
          exact ⟨(b0, b1), fun _ => ⟨⟨⟨w0, w1⟩, by rw [hx1]; simp only [Rows.uptoBulk]; omega, by rw [hx1]; simp only [Rows.uptoBulk]; omega⟩, c0, c1, by simpa using e0, by simpa using e1, s0, s1⟩⟩
      · exact ⟨([], []), fun h => absurd h hin⟩
    obtain ⟨f, hf⟩ : ∃ f : Nat → Chg, ∀ i, i < len → (((∀ n ∈ (f i).1, (Lit.int .u8 n).wf = true) ∧ (∀ n ∈ (f i).2, (Lit.int .u8 n).wf = true)) ∧ (f i).1.length ≤ Rows.uptoBulk x.1 ∧ (f i).2.length ≤ Rows.uptoBulk x.1) ∧ ∃ u1 u2, W.cell? (ad.add (i * 2)) = some u1 ∧ W.cell? (ad.add (i * 2 + 1)) = some u2 ∧
        Sl W u1 ((f i).1.map (Value.int .u8)) ∧ Sl W u2 ((f i).2.map (Value.int .u8)) := ⟨fun i => Classical.choose (each i), fun i => Classical.choose_spec (each i)⟩
    refine ⟨(List.range len).map f, ⟨some ad, cap, by simp, by simpa using hl, hm, fun hp => ?_⟩, fun p hp => ?_⟩
    · have hp : 0 < len := by simpa using hp
      obtain ⟨b, off, spot⟩ := ad
      obtain ⟨_, u1, u2, c1, _⟩ := hf 0 hp
      have hspot : spot = none := by simpa [Addr.add] using World.cell?_spot c1
      subst hspot
      have hadd : ∀ k, (⟨b, off, none⟩ : Addr).add k = ⟨b, off + k, none⟩ := fun k => by simp only [Addr.add]; split <;> simp_all
      refine ⟨b, off, rfl, ?_, fun i p hi => ?_⟩
      · rcases Nat.lt_or_ge b W.heap.size with h | h
        · exact h
        · simp [Addr.add, World.cell?, Array.getElem?_eq_none h] at c1
      · have hil : i < len := by
          rcases Nat.lt_or_ge i len with h | h
          · exact h
          · rw [List.getElem?_eq_none (by simpa using h)] at hi; cases hi
        rw [List.getElem?_map, List.getElem?_range hil] at hi
        simp only [Option.map_some, Option.some.injEq] at hi
        subst hi
        obtain ⟨_, u1, u2, c1, c2, s1, s2⟩ := hf i hil
        rw [hadd] at c1 c2
        exact ⟨u1, u2, c1, by rw [Nat.add_assoc]; exact c2, s1, s2⟩
    · obtain ⟨i, hi, rfl⟩ := List.mem_map.1 hp
      exact (hf i (by simpa using hi)).1

end Go.Proofs.Ytpdajglcpkfonaa
