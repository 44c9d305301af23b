
/- Signatures as bytes: the program's Read. Conditions: none. -/
import Derived.Test.YtjhannlioddkkaaDoorSig1
import Derived.Test.YtjhannlioddkkaaDoorReaderB
import Derived.Test.YtjhannlioddkkaaDoorRec5
import Derived.Test.YtjhannlioddkkaaDoorMtsCan
import Derived.Test.YtjhannlioddkkaaDoorDigits
import Derived.Test.YtjhannlioddkkaaDoorWotsP
import Derived.Test.YtjhannlioddkkaaDoorSlc
import Derived.Test.YtjhannlioddkkaaDoorMake
import Derived.Laws.ResultCell
import Derived.Deep.RegionHeld3
import Derived.Deep.Cut
namespace Go.Proofs.YtjhannlioddkkaaDoor
open Go.RowKit
set_option linter.unusedVariables false

theorem results_cell_tmp2 {fn : Func} {p u v : Tmp} {ty : TypeId} (h : fn.results = #[.cell p ty, .tmp u, .tmp v]) (tmps : Array Value) (P : Program) (w : World) :
    (results fn tmps).run P w =
      ((asAddr (tmps.getD p undef)).run P w).andThen fun a w₁ => ((loadVar ty a).run P w₁).andThen fun x w₂ => .ok (.tuple #[x, tmps.getD u undef, tmps.getD v undef]) w₂ := by
  simp only [results, h]
  simp [Sem.run_bind, Result.andThen]

/-- The i-th piece of some bytes, z bytes each. -/
def chunkI (z : Nat) (r : List Int) (i : Nat) : List Int := (r.drop (z * i)).take z
def chunksI (z : Nat) (r : List Int) (a n : Nat) : List (List Int) := (List.range n).map fun i => chunkI z r (a + i)
theorem chunksI_succ (z : Nat) (r : List Int) (a n : Nat) : chunksI z r a (n + 1) = chunksI z r a n ++ [chunkI z r (a + n)] := by unfold chunksI; rw [List.range_succ, List.map_append]; rfl
theorem chunksI_len (z : Nat) (r : List Int) (a n : Nat) : (chunksI z r a n).length = n := by simp [chunksI]

/-- What the reader reads first: a number that has so many bits. -/
def mrU (h : Nat) (bs : List Int) : Int × List Int × Int := uI (2 ^ h - 1) bs 0
def mrNeed (size height : Int) : Nat := size.toNat * (4 * size.toNat + 5 + height.toNat)
def mrC (size height : Int) (bs : List Int) : Int :=
  if mcanB size height = false then 1 else if (mrU height.toNat bs).2.2 ≠ 0 then (mrU height.toNat bs).2.2 else if (mrU height.toNat bs).2.1.length < mrNeed size height then 3 else 0
def mrParts (size : Int) (r : List Int) : List (List Int) := chunksI size.toNat r 0 (4 * size.toNat + 5)
def mrPath (size height : Int) (r : List Int) : List (List Int) := chunksI size.toNat r (4 * size.toNat + 5) height.toNat

theorem set3_below {B : Nat} {W w : World} {g : Nat} (h : Below B W w) (hg : B ≤ g) (hB : B ≤ w.heap.size) (x0 x1 x2 : Value) : Below B W (((w.setCell ⟨g, 0, none⟩ x0).setCell ⟨g, 1, none⟩ x1).setCell ⟨g, 2, none⟩ x2) :=
  ((h.setCell (p := ⟨g, 0, none⟩) hg x0).setCell (p := ⟨g, 1, none⟩) hg x1).setCell (p := ⟨g, 2, none⟩) hg x2

/-- What Read answers. -/
def MrRes (w w' : World) (size height : Int) (bs : List Int) (x y : Value) : Prop :=
  (mrC size height bs = 0 → SigV w' x (mrU height.toNat bs).1 (mrParts size (mrU height.toNat bs).2.1) (mrPath size height (mrU height.toNat bs).2.1) ∧ Sl w' y (((mrU height.toNat bs).2.1.drop (mrNeed size height)).map (Value.int .u8))) ∧
  (¬ mrC size height bs = 0 → x = .agg #[.int .i64 0, .slice none 0 0, .slice none 0 0] ∧ y = .slice none 0 0) ∧ Below w.heap.size w w'

theorem MrRes.no {w w' : World} {size height : Int} {bs : List Int} (hb : Below w.heap.size w w') (hc : ¬ mrC size height bs = 0) : MrRes w w' size height bs (.agg #[.int .i64 0, .slice none 0 0, .slice none 0 0]) (.slice none 0 0) :=
  ⟨fun h => absurd h hc, fun _ => ⟨rfl, rfl⟩, hb⟩

/-- A row of texts keeps while another such row grows, in another block. -/
theorem OSls.keepV {w w' : World} {base b2 : Nat} {v v2 : Value} {pss pss2 : List (List Int)} (h : OSls w base v pss) (hO : OSls w b2 v2 pss2) (hne : ∀ g, v2.ownBlock = some g → v.ownBlock ≠ some g) (hg : w.grownBy w' v2.ownBlock) : OSls w' base v pss := by
  obtain ⟨us2, k2, _⟩ := hO
  cases hv : v2.ownBlock with
  | none =>
    rw [hv] at hg
    exact h.below ⟨hg.os, hg.tape, hg.output, hg.size, fun k hk => hg.block k hk (by simp)⟩
  | some g =>
    obtain ⟨cs, hc1, hc2⟩ := k2.2 g hv
    have hn := hne g hv
    rw [hv] at hg
    have kB : Blk w g 25 cs := hc1
    have hcs : ∀ (j : Nat) (n : Int), cs[j]? ≠ some (.int .u8 n) := fun j n hj => by
      have hm := Array.mem_of_getElem? hj
      exact hc2 _ (by simpa using hm) n rfl
    obtain ⟨us, k1, k3⟩ := h
    refine ⟨us, ⟨k1.1.kept hg (.inr hn), fun g' hg' => ?_⟩, ?_⟩
    · obtain ⟨cur, hd1, hd2⟩ := k1.2 g' hg'
      exact ⟨cur, (hg.block g' (k1.1.lt g' hg').2 (fun e => hn (by rw [hg', e]))).trans hd1, hd2⟩
    · have key : ∀ {us : List Value} {ps : List (List Int)}, SlAll w us ps → SlAll w' us ps := by
        intro us
        induction us with
        | nil => intro ps h; cases ps with
          | nil => trivial
          | cons _ _ => exact h.elim
        | cons u us ih => intro ps h; cases ps with
          | nil => exact h.elim
          | cons p ps => exact ⟨h.1.keepG kB hcs hg, ih h.2⟩
      exact key k3

theorem Sl.keepV {w w' : World} {b2 : Nat} {u v2 : Value} {zs : List Int} {pss2 : List (List Int)} (hs : Sl w u (zs.map (Value.int .u8))) (hO : OSls w b2 v2 pss2) (hg : w.grownBy w' v2.ownBlock) : Sl w' u (zs.map (Value.int .u8)) := by
  obtain ⟨us2, k2, _⟩ := hO
  cases hv : v2.ownBlock with
  | none =>
    rw [hv] at hg
    exact hs.below (B := w.heap.size) ⟨hg.os, hg.tape, hg.output, hg.size, fun k hk => hg.block k hk (by simp)⟩ (Nat.le_refl _)
  | some g =>
    obtain ⟨cs, hc1, hc2⟩ := k2.2 g hv
    rw [hv] at hg
    have kB : Blk w g 25 cs := hc1
    exact hs.keepG kB (fun j n hj => by
      have hm := Array.mem_of_getElem? hj
      exact hc2 _ (by simpa using hm) n rfl) hg

theorem sig_noB {idx : Int} {vp vq : Value} (h1 : isSl vp) (h2 : isSl vq) : ∀ (j : Nat) (n : Int), (#[.int .i64 idx, vp, vq] : Array Value)[j]? ≠ some (.int .u8 n) := by
  obtain ⟨_, _, _, rfl⟩ := h1
  obtain ⟨_, _, _, rfl⟩ := h2
  intro j n h
  match j, h with
  | 0, h => simp at h
  | 1, h => simp at h
  | 2, h => simp at h
  | j + 3, h => simp at h

/-- What stands while a signature is read. -/
structure MrS (w wr : World) (gs : Nat) (idx : Int) (vp vq : Value) (Bq : Nat) (P Q : List (List Int)) : Prop where
  kS : Blk wr gs 24 #[.int .i64 idx, vp, vq]
  kZ : Blk wr w.heap.size 24 #[.int .i64 0, .slice none 0 0, .slice none 0 0]
  hP : OSls wr w.heap.size vp P
  hQ : OSls wr Bq vq Q
  ne : ∀ g, vp.ownBlock = some g → g < Bq
  le : Bq ≤ wr.heap.size
  lo : w.heap.size ≤ Bq
  bel : Below w.heap.size w wr
  zs : w.heap.size < gs
theorem OSls.isSl {w : World} {base : Nat} {v : Value} {pss : List (List Int)} (h : OSls w base v pss) : isSl v := by obtain ⟨a, c, rfl⟩ := h.val; exact ⟨_, _, _, rfl⟩
theorem MrS.below {w wr w1 : World} {gs Bq : Nat} {idx : Int} {vp vq : Value} {P Q : List (List Int)} (h : MrS w wr gs idx vp vq Bq P Q) (hb : Below wr.heap.size wr w1) : MrS w w1 gs idx vp vq Bq P Q :=
  ⟨h.kS.belowS hb, h.kZ.belowS hb, h.hP.below hb, h.hQ.below hb, h.ne, Nat.le_trans h.le hb.size, h.lo, below_trans2 h.bel hb, h.zs⟩
theorem MrS.app1 {w wr w5 : World} {gs Bq : Nat} {idx : Int} {vp v5 : Value} {P P5 : List (List Int)} (h : MrS w wr gs idx vp (.slice none 0 0) Bq P []) (hO : OSls w5 w.heap.size v5 P5) (hg : wr.grownBy w5 vp.ownBlock) (hb : Below w.heap.size wr w5) :
    w5.frozen? ⟨gs, 1, none⟩ = false ∧ w5.cell? ⟨gs, 1, none⟩ = some vp ∧ MrS w (w5.setCell ⟨gs, 1, none⟩ v5) gs idx v5 (.slice none 0 0) w5.heap.size P5 [] ∧ ∀ (u : Value) (zs : List Int), Sl wr u (zs.map (Value.int .u8)) → Sl (w5.setCell ⟨gs, 1, none⟩ v5) u (zs.map (Value.int .u8)) := by
  have k5 := h.kS.keepO h.hP hg (by decide)
  have z5 := h.kZ.keepO h.hP hg (by decide)
  have hs : w5.grownBy (w5.setCell ⟨gs, 1, none⟩ v5) (some gs) := only_setCell (p := ⟨gs, 1, none⟩) (World.grownBy.refl _ _) (.inl rfl) _
  have hzs := h.zs
  refine ⟨k5.frozen 1, k5.cell 1, ⟨by have := k5.set_ 1 v5; simpa using this, z5.grown hs (by intro e; cases e; omega), hO.keepGk k5 (by decide) (sig_noB h.hP.isSl ⟨_, _, _, rfl⟩) hs, OSls.nil _ _, fun g hgv => ?_, by simp [World.setCell], (h.bel.trans hb).size, below_of_only (h.bel.trans hb) hs (by omega) (h.bel.trans hb).size, h.zs⟩, fun u zs hu => (hu.keepV h.hP hg).keepG k5 (sig_noB h.hP.isSl ⟨_, _, _, rfl⟩) hs⟩
  obtain ⟨us, k, _⟩ := hO
  exact (k.1.lt g hgv).2
theorem MrS.app2 {w wr w5 : World} {gs Bq : Nat} {idx : Int} {vp vq v5 : Value} {P Q Q5 : List (List Int)} (h : MrS w wr gs idx vp vq Bq P Q) (hO : OSls w5 Bq v5 Q5) (hg : wr.grownBy w5 vq.ownBlock) (hb0 : Below Bq wr w5) (hwB : w.heap.size ≤ Bq) :
    w5.frozen? ⟨gs, 2, none⟩ = false ∧ w5.cell? ⟨gs, 2, none⟩ = some vq ∧ MrS w (w5.setCell ⟨gs, 2, none⟩ v5) gs idx vp v5 Bq P Q5 ∧ ∀ (u : Value) (zs : List Int), Sl wr u (zs.map (Value.int .u8)) → Sl (w5.setCell ⟨gs, 2, none⟩ v5) u (zs.map (Value.int .u8)) := by
  have hb : Below w.heap.size wr w5 := hb0.mono hwB
  have k5 := h.kS.keepO h.hQ hg (by decide)
  have z5 := h.kZ.keepO h.hQ hg (by decide)
  have hs : w5.grownBy (w5.setCell ⟨gs, 2, none⟩ v5) (some gs) := only_setCell (p := ⟨gs, 2, none⟩) (World.grownBy.refl _ _) (.inl rfl) _
  have hzs := h.zs
  have hNB := sig_noB (idx := idx) h.hP.isSl h.hQ.isSl
  have hP5 := h.hP.keepV h.hQ (fun g hgq hgp => by
    obtain ⟨us, k, _⟩ := h.hQ
    have h1 := (k.1.lt g hgq).1
    have h2 := h.ne g hgp
    omega) hg
  exact ⟨k5.frozen 2, k5.cell 2, ⟨by have := k5.set_ 2 v5; simpa using this, z5.grown hs (by intro e; cases e; omega), hP5.keepGk k5 (by decide) hNB hs, hO.keepGk k5 (by decide) hNB hs, h.ne, by simp [World.setCell]; exact Nat.le_trans h.le hg.size, h.lo, below_of_only (h.bel.trans hb) hs (by omega) (h.bel.trans hb).size, h.zs⟩, fun u zs hu => (hu.keepV h.hQ hg).keepG k5 hNB hs⟩

end Go.Proofs.YtjhannlioddkkaaDoor
