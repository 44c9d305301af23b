
/- How a record that came in is opened. -/
import Derived.Test.YtjhannlioddkkaaDoorRec1
import Derived.Test.YtjhannlioddkkaaDoorTextR
import Derived.ProofKit
import Derived.OpenShut
import Derived.Deep.Slices
import Derived.Deep.Fields
import Derived.ChangeSame
import Derived.Lib.SmallJoins
import Derived.Lib.LaidTab
namespace Go.Proofs.YtjhannlioddkkaaDoor
open Go.ChangeShapes Go.WideShapes Go.Deep
set_option linter.unusedVariables false
variable {H : Type} {enc : TypeId × Value → H} {W : World} {held : Bool} {fuel : Nat} {x : DataW H × List MemPlace}

theorem rbytes_opened {v : Value} (h : DataW.trod enc Tryd.prog W 0 (fun _ => true) held fuel 25 [v] = some x) :
    ∃ bs : List Int, Sl W v (bs.map (Value.int .u8)) ∧ ∀ n ∈ bs, (Lit.int .u8 n).wf = true := by
  rcases open_ints Tryd.underlying25 Tryd.underlying5 (by kernel_rfl) h with ⟨hcs, _⟩ | ⟨a, l, c, zs, hcs, _, hl, hm, hz, _, hcell, hw⟩
  · obtain rfl : v = .slice none 0 0 := by simpa using hcs
    exact ⟨[], Sl.nil _, by simp⟩
  · obtain rfl : v = .slice (some a) l c := by simpa using hcs
    exact ⟨zs.take l, Sl.opened hl hm (by simpa using hz) hcell, fun n hn => hw n (List.mem_of_mem_take hn)⟩

theorem rtexts_opened {v : Value} (h : DataW.trod enc Tryd.prog W 0 (fun _ => true) held fuel 22 [v] = some x) :
    ∃ zs : List (List Int), Sls W v zs ∧ ∀ p ∈ zs, ∀ n ∈ p, (Lit.int .u8 n).wf = true := by
  rcases open_int_rows Tryd.underlying22 Tryd.underlying25 Tryd.underlying5 (by kernel_rfl) (by kernel_rfl) h with ⟨hcs, _⟩ | ⟨x, l, c, AA, LL, CC, ZZ, hcs, _, hl, hm, hx, hrow⟩
  · obtain rfl : v = .slice none 0 0 := by simpa using hcs
    exact ⟨[], ⟨[], Sl.nil _, rfl, fun i u bs hu _ => by simp at hu⟩, by simp⟩
  · obtain rfl : v = .slice (some x) l c := by simpa using hcs
    exact ⟨_, Sls.opened hl hm hrow, opened_isB hl hrow⟩

set_option maxRecDepth 100000 in
theorem record_opened {r : Reach} {b0 : Nat} {v : Value} {d : DataW H} {p : List MemPlace} (hv : Value.okWide Tryd.prog W r b0 35 v) (h : DataW.Trod enc Tryd.prog W 0 (fun _ => true) held 35 v d p) :
    ∃ ep ti tr co li ln, RecV W v ep ti tr co li ln ∧ (∀ n ∈ tr, (Lit.int .u8 n).wf = true) ∧ (∀ n ∈ li, (Lit.int .u8 n).wf = true) ∧ ∀ p ∈ ln, ∀ n ∈ p, (Lit.int .u8 n).wf = true := by
  obtain ⟨cs, rfl, hsz⟩ := okWide_struct Tryd.underlying35 hv
  have hsz := hsz.trans (show Tryd.prog.cellsOf 35 = 6 by kernel_rfl)
  obtain ⟨l⟩ := cs
  match l, hsz with
  | [c0, c1, c2, c3, c4, c5], _ =>
    obtain ⟨fu, hf⟩ := h
    obtain ⟨xs, n, _, hx, _, hlen, hg⟩ := DataW.trod_struct Tryd.underlying35 hf
    have hone : Tryd.prog.cellsOf 3 = 1 := by kernel_rfl
    have honeS : Tryd.prog.cellsOf 25 = 1 := by kernel_rfl
    have honeT : Tryd.prog.cellsOf 22 = 1 := by kernel_rfl
    have key : ∀ (c : Value) (y : DataW H × List MemPlace), DataW.trod enc Tryd.prog W 0 (fun _ => true) held n 3 [c] = some y → ∃ z : Int, c = .int .i64 z := fun c y hy => by
      obtain ⟨z, hz, _⟩ := DataW.trod_int Tryd.underlying3 hy
      exact ⟨z, by simpa using hz⟩
    match xs, hlen with
    | [y0, y1, y2, y3, y4, y5], _ =>
      obtain ⟨z0, rfl⟩ := key c0 y0 (by simpa [Value.cells, hone] using hg 0 _ rfl)
      obtain ⟨z1, rfl⟩ := key c1 y1 (by simpa [Value.cells, hone] using hg 1 _ rfl)
      obtain ⟨b2, s2, w2⟩ := rbytes_opened (v := c2) (x := y2) (by simpa [Value.cells, hone, honeS] using hg 2 _ rfl)
      obtain ⟨z3, rfl⟩ := key c3 y3 (by simpa [Value.cells, hone, honeS] using hg 3 _ rfl)
      obtain ⟨b4, s4, w4⟩ := rbytes_opened (v := c4) (x := y4) (by simpa [Value.cells, hone, honeS] using hg 4 _ rfl)
      obtain ⟨b5, s5, w5⟩ := rtexts_opened (v := c5) (x := y5) (by simpa [Value.cells, hone, honeS, honeT] using hg 5 _ rfl)
      exact ⟨z0, z1, b2, z3, b4, b5, ⟨_, _, _, rfl, s2, s4, s5⟩, w2, w4, w5⟩

theorem g64 : Tryd.prog.globalNamed "math/bits.deBruijn64tab" = some 4 := by kernel_rfl

end Go.Proofs.YtjhannlioddkkaaDoor
