
/- How a signed record that came in is opened. -/
import Derived.Test.YtjhannlioddkkaaDoorSig2
import Derived.Test.YtjhannlioddkkaaDoorRecR
import Derived.Test.YtjhannlioddkkaaDoorSigR
namespace Go.Proofs.YtjhannlioddkkaaDoor
open Go.ChangeShapes Go.WideShapes Go.Deep
set_option linter.unusedVariables false
variable {H : Type} {enc : TypeId × Value → H} {W : World} {held : Bool} {fuel : Nat} {x : DataW H × List MemPlace}

theorem rec_raw {c0 c1 c2 c3 c4 c5 : Value} (hf : DataW.trod enc Tryd.prog W 0 (fun _ => true) held fuel 35 [c0, c1, c2, c3, c4, c5] = some x) :
    ∃ ep ti tr co li ln, RecV W (.agg #[c0, c1, c2, c3, c4, c5]) ep ti tr co li ln ∧ (∀ n ∈ tr, (Lit.int .u8 n).wf = true) ∧ (∀ n ∈ li, (Lit.int .u8 n).wf = true) ∧ ∀ p ∈ ln, ∀ n ∈ p, (Lit.int .u8 n).wf = true := by
  obtain ⟨xs, n, _, hx, _, hlen, hg⟩ := DataW.trod_struct Tryd.underlying35 hf
  have hone : Tryd.prog.cellsOf 3 = 1 := by kernel_rfl
  have honeS : Tryd.prog.cellsOf 25 = 1 := by kernel_rfl
  have honeT : Tryd.prog.cellsOf 22 = 1 := by kernel_rfl
  have key : ∀ (c : Value) (y : DataW H × List MemPlace), DataW.trod enc Tryd.prog W 0 (fun _ => true) held n 3 [c] = some y → ∃ z : Int, c = .int .i64 z := fun c y hy => by
    obtain ⟨z, hz, _⟩ := DataW.trod_int Tryd.underlying3 hy
    exact ⟨z, by simpa using hz⟩
  match xs, hlen with
  | [y0, y1, y2, y3, y4, y5], _ =>
    obtain ⟨z0, rfl⟩ := key c0 y0 (by simpa [Value.cells, hone] using hg 0 _ rfl)
    obtain ⟨z1, rfl⟩ := key c1 y1 (by simpa [Value.cells, hone] using hg 1 _ rfl)
    obtain ⟨b2, s2, w2⟩ := rbytes_opened (v := c2) (x := y2) (by simpa [Value.cells, hone, honeS] using hg 2 _ rfl)
    obtain ⟨z3, rfl⟩ := key c3 y3 (by simpa [Value.cells, hone, honeS] using hg 3 _ rfl)
    obtain ⟨b4, s4, w4⟩ := rbytes_opened (v := c4) (x := y4) (by simpa [Value.cells, hone, honeS] using hg 4 _ rfl)
    obtain ⟨b5, s5, w5⟩ := rtexts_opened (v := c5) (x := y5) (by simpa [Value.cells, hone, honeS, honeT] using hg 5 _ rfl)
    exact ⟨z0, z1, b2, z3, b4, b5, ⟨_, _, _, rfl, s2, s4, s5⟩, w2, w4, w5⟩

theorem sig_raw {c0 c1 c2 : Value} (hf : DataW.trod enc Tryd.prog W 0 (fun _ => true) held fuel 24 [c0, c1, c2] = some x) :
    ∃ idx parts path, SigV W (.agg #[c0, c1, c2]) idx parts path ∧ (Lit.int .i64 idx).wf = true ∧ (∀ p ∈ parts, ∀ n ∈ p, (Lit.int .u8 n).wf = true) ∧ ∀ p ∈ path, ∀ n ∈ p, (Lit.int .u8 n).wf = true := by
  obtain ⟨xs, n, _, hx, _, hlen, hg⟩ := DataW.trod_struct Tryd.underlying24 hf
  have hone : Tryd.prog.cellsOf 3 = 1 := by kernel_rfl
  have honeT : Tryd.prog.cellsOf 22 = 1 := by kernel_rfl
  match xs, hlen with
  | [y0, y1, y2], _ =>
    obtain ⟨z0, hz0, _, hw0⟩ := DataW.trod_int Tryd.underlying3 (show DataW.trod enc Tryd.prog W 0 (fun _ => true) held n 3 [c0] = some y0 by simpa [Value.cells, hone] using hg 0 _ rfl)
    obtain rfl : c0 = .int .i64 z0 := by simpa using hz0
    obtain ⟨b1, s1, w1⟩ := stexts_opened (v := c1) (x := y1) (by simpa [Value.cells, hone, honeT] using hg 1 _ rfl)
    obtain ⟨b2, s2, w2⟩ := stexts_opened (v := c2) (x := y2) (by simpa [Value.cells, hone, honeT] using hg 2 _ rfl)
    exact ⟨z0, b1, b2, ⟨_, _, rfl, s1, s2⟩, hw0, w1, w2⟩

set_option maxRecDepth 100000 in
theorem signed_opened {r : Reach} {b0 : Nat} {v : Value} {d : DataW H} {p : List MemPlace} (hv : Value.okWide Tryd.prog W r b0 37 v) (h : DataW.Trod enc Tryd.prog W 0 (fun _ => true) held 37 v d p) :
    ∃ ep ti tr co li ln idx parts path, SgnV W v ep ti tr co li ln idx parts path ∧ ((∀ n ∈ tr, (Lit.int .u8 n).wf = true) ∧ (∀ n ∈ li, (Lit.int .u8 n).wf = true) ∧ ∀ p ∈ ln, ∀ n ∈ p, (Lit.int .u8 n).wf = true) ∧ (Lit.int .i64 idx).wf = true ∧ (∀ p ∈ parts, ∀ n ∈ p, (Lit.int .u8 n).wf = true) ∧ ∀ p ∈ path, ∀ n ∈ p, (Lit.int .u8 n).wf = true := by
  obtain ⟨cs, rfl, hsz⟩ := okWide_struct Tryd.underlying37 hv
  have hsz := hsz.trans (show Tryd.prog.cellsOf 37 = 9 by kernel_rfl)
  obtain ⟨l⟩ := cs
  match l, hsz with
  | [c0, c1, c2, c3, c4, c5, c6, c7, c8], _ =>
    obtain ⟨fu, hf⟩ := h
    obtain ⟨xs, n, _, hx, _, hlen, hg⟩ := DataW.trod_struct Tryd.underlying37 hf
    have h6 : Tryd.prog.cellsOf 35 = 6 := by kernel_rfl
    have h3 : Tryd.prog.cellsOf 24 = 3 := by kernel_rfl
    match xs, hlen with
    | [y0, y1], _ =>
      obtain ⟨ep, ti, tr, co, li, ln, hr, w1⟩ := rec_raw (c0 := c0) (c1 := c1) (c2 := c2) (c3 := c3) (c4 := c4) (c5 := c5) (x := y0) (by simpa [Value.cells, h6] using hg 0 _ rfl)
      obtain ⟨idx, parts, path, hs, w2⟩ := sig_raw (c0 := c6) (c1 := c7) (c2 := c8) (x := y1) (by simpa [Value.cells, h6, h3] using hg 1 _ rfl)
      obtain ⟨vt, vl, vk, e1, s1⟩ := hr
      obtain ⟨vp, vq, e2, s2⟩ := hs
      cases e1
      cases e2
      exact ⟨ep, ti, tr, co, li, ln, idx, parts, path, ⟨_, _, _, _, _, rfl, ⟨_, _, _, rfl, s1⟩, ⟨_, _, rfl, s2⟩⟩, w1, w2⟩

end Go.Proofs.YtjhannlioddkkaaDoor
