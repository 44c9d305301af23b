/- How a script that came in is opened, and a step. -/
import Derived.Test.YteaimjfpmacgeaaDvS
import Derived.ProofKit
import Derived.OpenShut
import Derived.Deep.Slices
import Derived.Deep.Fields
import Derived.ChangeSame
import Derived.Lib.SmallJoins
namespace Go.Proofs.Yteaimjfpmacgeaa
open Go.ChangeShapes Go.WideShapes Go.Deep
set_option linter.unusedVariables false
variable {H : Type} {enc : TypeId × Value → H} {W : World} {held : Bool} {fuel : Nat} {x : DataW H × List MemPlace}

theorem stbytes_opened {v : Value} (h : DataW.trod enc Try.prog W 0 (fun _ => true) held fuel 29 [v] = some x) :
    ∃ bs : List Int, Sl W v (bs.map (Value.int .u8)) ∧ ∀ n ∈ bs, (Lit.int .u8 n).wf = true := by
  rcases open_ints Try.underlying29 Try.underlying5 (by kernel_rfl) h with ⟨hcs, _⟩ | ⟨a, l, c, zs, hcs, _, hl, hm, hz, _, hcell, hw⟩
  · obtain rfl : v = .slice none 0 0 := by simpa using hcs
    exact ⟨[], Sl.nil _, by simp⟩
  · obtain rfl : v = .slice (some a) l c := by simpa using hcs
    exact ⟨zs.take l, Sl.opened hl hm (by simpa using hz) hcell, fun n hn => hw n (List.mem_of_mem_take hn)⟩

def stpWf (p : Stp) : Prop := (Lit.int .i64 p.1).wf = true ∧ (Lit.int .i64 p.2.1).wf = true ∧ ∀ n ∈ p.2.2, (Lit.int .u8 n).wf = true

/-- The three cells of a step. -/
theorem stp_cells {c0 c1 c2 : Value} (h : DataW.trod enc Try.prog W 0 (fun _ => true) held fuel 36 [c0, c1, c2] = some x) :
    ∃ p : Stp, stpWf p ∧ c0 = .int .i64 p.1 ∧ c1 = .int .i64 p.2.1 ∧ Sl W c2 (p.2.2.map (Value.int .u8)) := by
  obtain ⟨xs, n, _, hx, _, hlen, hg⟩ := DataW.trod_struct Try.underlying36 h
  have hone : Try.prog.cellsOf 3 = 1 := by kernel_rfl
  have honeB : Try.prog.cellsOf 29 = 1 := by kernel_rfl
  match xs, hlen with
  | [y0, y1, y2], _ =>
    obtain ⟨z0, hz0, _, hw0⟩ := DataW.trod_int Try.underlying3 (show DataW.trod enc Try.prog W 0 (fun _ => true) held n 3 [c0] = some y0 by simpa [Value.cells, hone] using hg 0 _ rfl)
    obtain ⟨z1, hz1, _, hw1⟩ := DataW.trod_int Try.underlying3 (show DataW.trod enc Try.prog W 0 (fun _ => true) held n 3 [c1] = some y1 by simpa [Value.cells, hone] using hg 1 _ rfl)
    obtain ⟨bs, s2, w2⟩ := stbytes_opened (v := c2) (x := y2) (by simpa [Value.cells, hone, honeB] using hg 2 _ rfl)
    exact ⟨(z0, z1, bs), ⟨hw0, hw1, w2⟩, by simpa using hz0, by simpa using hz1, s2⟩

theorem Stps.opened {a : Option Addr} {len cap : Nat} (h : DataW.trod enc Try.prog W 0 (fun _ => true) held fuel 30 [.slice a len cap] = some x) :
    ∃ l : List Stp, Stps W (.slice a len cap) l ∧ ∀ p ∈ l, stpWf p := by
  rcases open_slice Try.underlying30 h with ⟨hcs, _⟩ | ⟨ad, n, c, m, fu, D, Pl, hcs, _, hl, hm, hmm, _, hi⟩
  · obtain ⟨rfl, rfl, rfl⟩ : a = none ∧ len = 0 ∧ cap = 0 := by simpa using hcs
    exact ⟨[], Stps.nil _, by simp⟩
  · obtain ⟨rfl, rfl, rfl⟩ : a = some ad ∧ len = n ∧ cap = c := by simpa using hcs
    have each : ∀ i, ∃ p : Stp, i < len → stpWf p ∧ ∃ u, W.cell? (ad.add (i * 3)) = some (.int .i64 p.1) ∧ W.cell? (ad.add (i * 3 + 1)) = some (.int .i64 p.2.1) ∧ W.cell? (ad.add (i * 3 + 2)) = some u ∧ Sl W u (p.2.2.map (Value.int .u8)) := by
      intro i
      by_cases hin : i < len
      · obtain ⟨cs', hc, ht⟩ := hi i (by rw [hmm]; simp; omega)
        rw [show Try.prog.cellsOf 36 = 3 by kernel_rfl] at hc
        obtain ⟨_, hcl, hat⟩ := World.cells?_some hc
        match cs', hcl with
        | [c0, c1, c2], _ =>
          have e0 := hat 0 (by omega)
          have e1 := hat 1 (by omega)
          have e2 := hat 2 (by omega)
          rw [add_add] at e0 e1 e2
          obtain ⟨p, hw, rfl, rfl, s⟩ := stp_cells ht
          exact ⟨p, fun _ => ⟨hw, c2, by simpa using e0, by simpa using e1, by simpa using e2, s⟩⟩
      · exact ⟨(0, 0, []), fun h => absurd h hin⟩
    obtain ⟨f, hf⟩ : ∃ f : Nat → Stp, ∀ i, i < len → stpWf (f i) ∧ ∃ u, W.cell? (ad.add (i * 3)) = some (.int .i64 (f i).1) ∧ W.cell? (ad.add (i * 3 + 1)) = some (.int .i64 (f i).2.1) ∧ W.cell? (ad.add (i * 3 + 2)) = some u ∧ Sl W u ((f i).2.2.map (Value.int .u8)) := ⟨fun i => Classical.choose (each i), fun i => Classical.choose_spec (each i)⟩
    refine ⟨(List.range len).map f, ⟨some ad, cap, by simp, by simpa using hl, hm, fun hp => ?_⟩, fun p hp => ?_⟩
    · have hp : 0 < len := by simpa using hp
      obtain ⟨b, off, spot⟩ := ad
      obtain ⟨_, u, c1, _⟩ := hf 0 hp
      have hspot : spot = none := by simpa [Addr.add] using World.cell?_spot c1
      subst hspot
      have hadd : ∀ k, (⟨b, off, none⟩ : Addr).add k = ⟨b, off + k, none⟩ := fun k => by simp only [Addr.add]; split <;> simp_all
      refine ⟨b, off, rfl, ?_, fun i p hi => ?_⟩
      · rcases Nat.lt_or_ge b W.heap.size with h | h
        · exact h
        · simp [Addr.add, World.cell?, Array.getElem?_eq_none h] at c1
      · have hil : i < len := by
          rcases Nat.lt_or_ge i len with h | h
          · exact h
          · rw [List.getElem?_eq_none (by simpa using h)] at hi; cases hi
        rw [List.getElem?_map, List.getElem?_range hil] at hi
        simp only [Option.map_some, Option.some.injEq] at hi
        subst hi
        obtain ⟨_, u, c1, c2, c3, s1⟩ := hf i hil
        rw [hadd] at c1 c2 c3
        exact ⟨u, c1, by rw [Nat.add_assoc]; exact c2, by rw [Nat.add_assoc]; exact c3, s1⟩
    · obtain ⟨i, hi, rfl⟩ := List.mem_map.1 hp
      exact (hf i (by simpa using hi)).1

set_option maxRecDepth 100000 in
theorem step_opened {r : Reach} {b0 : Nat} {v : Value} {d : DataW H} {p : List MemPlace} (hv : Value.okWide Try.prog W r b0 36 v) (h : DataW.Trod enc Try.prog W 0 (fun _ => true) held 36 v d p) :
    ∃ q : Stp, StpV W v q ∧ stpWf q := by
  obtain ⟨cs, rfl, hsz⟩ := okWide_struct Try.underlying36 hv
  have hsz := hsz.trans (show Try.prog.cellsOf 36 = 3 by kernel_rfl)
  obtain ⟨l⟩ := cs
  match l, hsz with
  | [c0, c1, c2], _ =>
    obtain ⟨fu, hf⟩ := h
    obtain ⟨q, hw, rfl, rfl, s⟩ := stp_cells (show DataW.trod enc Try.prog W 0 (fun _ => true) held fu 36 [c0, c1, c2] = some _ by simpa [Value.cells] using hf)
    exact ⟨q, ⟨c2, rfl, s⟩, hw⟩

end Go.Proofs.Yteaimjfpmacgeaa
