
/- How a signature that came in is opened. -/
import Derived.Test.YtjhannlioddkkaaDoorSig1
import Derived.Test.YtjhannlioddkkaaDoorTextR
import Derived.ProofKit
import Derived.OpenShut
import Derived.Deep.Slices
import Derived.Deep.Fields
import Derived.ChangeSame
import Derived.Lib.SmallJoins
import Derived.Lib.LaidTab
namespace Go.Proofs.YtjhannlioddkkaaDoor
open Go.ChangeShapes Go.WideShapes Go.Deep
set_option linter.unusedVariables false
variable {H : Type} {enc : TypeId × Value → H} {W : World} {held : Bool} {fuel : Nat} {x : DataW H × List MemPlace}

theorem sbytes_opened {v : Value} (h : DataW.trod enc Tryd.prog W 0 (fun _ => true) held fuel 25 [v] = some x) :
    ∃ bs : List Int, Sl W v (bs.map (Value.int .u8)) ∧ ∀ n ∈ bs, (Lit.int .u8 n).wf = true := by
  rcases open_ints Tryd.underlying25 Tryd.underlying5 (by kernel_rfl) h with ⟨hcs, _⟩ | ⟨a, l, c, zs, hcs, _, hl, hm, hz, _, hcell, hw⟩
  · obtain rfl : v = .slice none 0 0 := by simpa using hcs
    exact ⟨[], Sl.nil _, by simp⟩
  · obtain rfl : v = .slice (some a) l c := by simpa using hcs
    exact ⟨zs.take l, Sl.opened hl hm (by simpa using hz) hcell, fun n hn => hw n (List.mem_of_mem_take hn)⟩

theorem stexts_opened {v : Value} (h : DataW.trod enc Tryd.prog W 0 (fun _ => true) held fuel 22 [v] = some x) :
    ∃ zs : List (List Int), Sls W v zs ∧ ∀ p ∈ zs, ∀ n ∈ p, (Lit.int .u8 n).wf = true := by
  rcases open_int_rows Tryd.underlying22 Tryd.underlying25 Tryd.underlying5 (by kernel_rfl) (by kernel_rfl) h with ⟨hcs, _⟩ | ⟨x, l, c, AA, LL, CC, ZZ, hcs, _, hl, hm, hx, hrow⟩
  · obtain rfl : v = .slice none 0 0 := by simpa using hcs
    exact ⟨[], ⟨[], Sl.nil _, rfl, fun i u bs hu _ => by simp at hu⟩, by simp⟩
  · obtain rfl : v = .slice (some x) l c := by simpa using hcs
    exact ⟨_, Sls.opened hl hm hrow, opened_isB hl hrow⟩

set_option maxRecDepth 100000 in
theorem sig_opened {r : Reach} {b0 : Nat} {v : Value} {d : DataW H} {p : List MemPlace} (hv : Value.okWide Tryd.prog W r b0 24 v) (h : DataW.Trod enc Tryd.prog W 0 (fun _ => true) held 24 v d p) :
    ∃ idx parts path, SigV W v idx parts path ∧ (Lit.int .i64 idx).wf = true ∧ (∀ p ∈ parts, ∀ n ∈ p, (Lit.int .u8 n).wf = true) ∧ ∀ p ∈ path, ∀ n ∈ p, (Lit.int .u8 n).wf = true := by
  obtain ⟨cs, rfl, hsz⟩ := okWide_struct Tryd.underlying24 hv
  have hsz := hsz.trans (show Tryd.prog.cellsOf 24 = 3 by kernel_rfl)
  obtain ⟨l⟩ := cs
  match l, hsz with
  | [c0, c1, c2], _ =>
    obtain ⟨fu, hf⟩ := h
    obtain ⟨xs, n, _, hx, _, hlen, hg⟩ := DataW.trod_struct Tryd.underlying24 hf
    have hone : Tryd.prog.cellsOf 3 = 1 := by kernel_rfl
    have honeT : Tryd.prog.cellsOf 22 = 1 := by kernel_rfl
    match xs, hlen with
    | [y0, y1, y2], _ =>
      obtain ⟨z0, hz0, _, hw0⟩ := DataW.trod_int Tryd.underlying3 (show DataW.trod enc Tryd.prog W 0 (fun _ => true) held n 3 [c0] = some y0 by simpa [Value.cells, hone] using hg 0 _ rfl)
      obtain rfl : c0 = .int .i64 z0 := by simpa using hz0
      obtain ⟨b1, s1, w1⟩ := stexts_opened (v := c1) (x := y1) (by simpa [Value.cells, hone, honeT] using hg 1 _ rfl)
      obtain ⟨b2, s2, w2⟩ := stexts_opened (v := c2) (x := y2) (by simpa [Value.cells, hone, honeT] using hg 2 _ rfl)
      exact ⟨z0, b1, b2, ⟨_, _, rfl, s1, s2⟩, hw0, w1, w2⟩

end Go.Proofs.YtjhannlioddkkaaDoor
