/- A range over an iterator that keeps its state in boxes of its own: what the caller of such a range owes. Conditions: the boxes lay when the range begins. The cuts of a page, as lists: the plain law of what they add up to. Conditions: none. The iterator of a page's cuts: its contract. Conditions: the counts read as a slice of numbers. feed.Cuts: the cuts of a page, in a row of the call's own. Conditions: the counts read as a slice of numbers, a million of them at most. -/
import Derived.RangeFuncWrites
import Derived.RangeFuncBox
import Derived.RangeFuncCalls
import Derived.Test.YtililoojjfcfgaaDoorLib
import Derived.Lib.Hide
import Derived.Test.YtililoojjfcfgaaDoorRows
import Derived.RangeFuncNested
import Derived.RangeFuncBound
import Derived.RangeFuncLeaves
import Derived.Shelf.Abstract
import Derived.Shelf.RegionOpen
import Derived.OwnWalkIn
import Derived.TacticsInMore
import Derived.LoopNIn
import Derived.LoopIn
import Derived.Maps.AppendAt
import Derived.Sort.QuietIn
import Derived.Test.YtililoojjfcfgaaDoorFcA
namespace Go.Proofs.YtililoojjfcfgaaDoor
open Go.RowKit
set_option linter.unusedVariables false

/-- Nothing that was there has turned but these blocks. -/
structure Turns (bs : List Nat) (w w' : World) : Prop where
  os : w'.os = w.os
  tape : w'.tape = w.tape
  output : w'.output = w.output
  size : w.heap.size ≤ w'.heap.size
  block : ∀ k, k < w.heap.size → k ∉ bs → w'.heap[k]? = w.heap[k]?
theorem Turns.refl (bs : List Nat) (w : World) : Turns bs w w := ⟨rfl, rfl, rfl, Nat.le_refl _, fun _ _ _ => rfl⟩
theorem Turns.trans {bs : List Nat} {a b c : World} (h : Turns bs a b) (k : Turns bs b c) : Turns bs a c :=
  ⟨k.os.trans h.os, k.tape.trans h.tape, k.output.trans h.output, Nat.le_trans h.size k.size, fun i hi hn => (k.block i (Nat.lt_of_lt_of_le hi h.size) hn).trans (h.block i hi hn)⟩
theorem Turns.mono {bs cs : List Nat} {w w' : World} (h : Turns bs w w') (hs : ∀ k, k ∈ bs → k ∈ cs) : Turns cs w w' :=
  ⟨h.os, h.tape, h.output, h.size, fun k hk hn => h.block k hk fun hb => hn (hs k hb)⟩
theorem Turns.alloc (bs : List Nat) (w : World) (o : Obj) : Turns bs w (w.alloc o) :=
  ⟨rfl, rfl, rfl, by simp, fun k hk _ => Below.heap_alloc w o k hk⟩
theorem Turns.putObj (w : World) (l : Nat) (o : Obj) : Turns [l] w (w.putObj l o) :=
  ⟨rfl, rfl, rfl, by simp, fun k _ hn => World.putObj_heap_other (by simpa using hn)⟩
theorem Turns.setCell (bs : List Nat) (w : World) {p : Addr} (hp : p.block ∈ bs) (u : Value) : Turns bs w (w.setCell p u) :=
  ⟨rfl, rfl, rfl, by simp [World.setCell], fun k _ hn => Below.heap_setCell w p u k (fun e => hn (by rw [e]; exact hp))⟩
theorem Turns.drew {bs : List Nat} {a w : World} (h : Turns bs a w) : Turns bs a w.drew := ⟨h.os, h.tape, h.output, h.size, h.block⟩
theorem Turns.of_below {w w' : World} (bs : List Nat) (h : Below w.heap.size w w') : Turns bs w w' := ⟨h.os, h.tape, h.output, h.size, fun k hk _ => h.block k hk⟩
theorem Turns.of_grown {w w' : World} {row : Option Nat} {bs : List Nat} (h : w.grownBy w' row) (hs : ∀ g, row = some g → g ∈ bs) : Turns bs w w' :=
  ⟨h.os, h.tape, h.output, h.size, fun k hk hn => h.block k hk fun e => hn (hs k e.symm)⟩
theorem Turns.heap {bs : List Nat} {w w' : World} (h : Turns bs w w') {k : Nat} {o : Obj} (hk : w.heap[k]? = some o) (hn : k ∉ bs) : w'.heap[k]? = some o :=
  (h.block k (Array.getElem?_eq_some_iff.1 hk).1 hn).trans hk
theorem Turns.toBelow {bs : List Nat} {B : Nat} {W w w' : World} (hb : Below B W w) (h : Turns bs w w') (hB : B ≤ w.heap.size) (hs : ∀ k, k ∈ bs → B ≤ k) : Below B W w' :=
  hb.trans ⟨h.os, h.tape, h.output, h.size, fun k hk => h.block k (Nat.lt_of_lt_of_le hk hB) fun hn => by have := hs k hn; omega⟩

/-- Boxes of numbers stay boxes of numbers. -/
def NumBoxes (bs : List Nat) (W W' : World) : Prop := ∀ k ∈ bs, ∀ (t : TypeId) (n : Int), Boxed W k t (.int .i64 n) → ∃ m : Int, Boxed W' k t (.int .i64 m)
theorem NumBoxes.of_turns {bs cs : List Nat} {W W' : World} (h : Turns cs W W') (hn : ∀ k ∈ bs, k ∉ cs) : NumBoxes bs W W' := fun k hk t n hb => ⟨n, (h.block k hb.lt (hn k hk)).trans hb⟩
theorem NumBoxes.same {bs : List Nat} {W W' : World} (h : ∀ k : Nat, W'.heap[k]? = W.heap[k]?) : NumBoxes bs W W' := fun k _ t n hb => ⟨n, (h k).trans hb⟩
/-- What is said of a round does not mind that the boxes turn. -/
def Stands {β : Type} (bs : List Nat) (J : β → World → Prop) : Prop := ∀ s W W', J s W → Turns bs W W' → NumBoxes bs W W' → J s W'

/-- AN ITERATOR WITH BOXES: between two rounds it may turn the blocks bs; a round keeps what Kp names. -/
def SeqBoxes {α : Type} (F : Fence) (n : Nat) (P : Program) (g : Nat) (lb : Array Value) (encs : α → Array Value) (bs : List Nat) (Kp : World → World → Prop) (all : List α) (w : World) : Prop :=
  ∀ (l : Nat) (J Jx : List α → World → Prop) (W : World), Kp w W → Stands bs J → Stands bs Jx →
    (∀ pre x W1, J pre W1 → pre ++ [x] <+: all → YieldAt F (n - 1) P l (encs x) W1 fun e W' =>
      (e = .returned (.bool true) ∧ J (pre ++ [x]) W' ∧ Kp W1 W') ∨ (e = .returned (.bool false) ∧ Jx (pre ++ [x]) W')) →
    J [] W →
    CallsIn F n P g (#[.func (.yield l) #[] #[]] ++ lb) W fun e W' => (∃ v, e = .returned v) ∧ (J all W' ∨ (∃ pre, pre <+: all ∧ Jx pre W'))

/-- The caller's word: it does not mind that the boxes turn, nor what is no cells at or beyond B. -/
def OwnBx {β : Type} (B : Nat) (bs : List Nat) (I : β → World → Prop) : Prop :=
  ∀ s W W' cs, I s W → Turns cs W W' → (∀ k, k ∈ cs → k ∈ bs ∨ (B ≤ k ∧ ∃ o : Obj, W.heap[k]? = some o ∧ o.isCells = false)) → NumBoxes bs W W' → I s W'
theorem OwnBx.alloc {β : Type} {B : Nat} {bs : List Nat} {I : β → World → Prop} (h : OwnBx B bs I) {s : β} {W : World} (o : Obj) (hs : I s W) : I s (W.alloc o) :=
  h s W _ [] hs (Turns.alloc _ _ _) (fun k hk => by cases hk) (NumBoxes.of_turns (Turns.alloc [] _ _) (fun _ _ hm => by cases hm))
theorem OwnBx.putObj {β : Type} {B : Nat} {bs : List Nat} {I : β → World → Prop} (h : OwnBx B bs I) {s : β} {W : World} {l : Nat} {o : Obj} (o' : Obj) (hs : I s W) (hB : B ≤ l) (hl : W.heap[l]? = some o) (ho : o.isCells = false) : I s (W.putObj l o') :=
  h s W _ [l] hs (Turns.putObj _ _ _) (fun k hk => by cases List.mem_singleton.1 hk; exact .inr ⟨hB, o, hl, ho⟩) (fun k _ t n hb => ⟨n, hb.kept (grownBy_putObj' W l o') (fun e => by injection e with e; subst e; rw [show W.heap[k]? = _ from hb] at hl; cases hl; cases ho)⟩)
theorem OwnBx.stands {β : Type} {B : Nat} {bs : List Nat} {I : β → World → Prop} (h : OwnBx B bs I) : Stands bs I :=
  fun s W W' hs ht hb => h s W W' bs hs ht (fun k hk => .inl hk) hb

variable {F : Fence} {n : Nat} {P : Program}

/-- **The range over such an iterator.** -/
theorem wpIn_range_boxes {α : Type} {g : Operand} {ps : Array Tmp} {assign body : Code} {Q : Exit → Act → World → Prop} {a : Act} {w : World}
    (hro : F.round = none) (h1 : 1 ≤ n) {gf : Nat} {lb : Array Value} (hg : a.eval g = .func (.func gf) #[] lb) (hFg : F.fn gf) (eg : ∀ args w, (callFunc gf args).run P w = .ok (.enter gf args) w)
    {encs : α → Array Value} {bs : List Nat} {Kp : World → World → Prop} {all : List α} (hseq : SeqBoxes F (n - 1) P gf lb encs bs Kp all w) (hbs : ∀ k, k ∈ bs → k < w.heap.size)
    (hKt : ∀ {A B C : World}, Kp A B → Kp B C → Kp A C) (hKn : ∀ (W W' : World) (cs : List Nat), Turns cs W W' → w.heap.size ≤ W.heap.size → (∀ k, k ∈ cs → w.heap.size ≤ k) → Kp W W') (hps : ∀ x, (encs x).size = ps.size)
    (I : List α → World → Prop) (Ix : Code → List α → World → Prop) (hI : OwnBx w.heap.size bs I) (hIx : ∀ c, OwnBx w.heap.size bs (Ix c)) (h0 : I [] w)
    (Ax : α → Act → World → Prop) (hAx : OwnBx w.heap.size bs (fun (p : α × Act) W => Ax p.1 p.2 W))
    (hassign : ∀ (l : Nat) (pre : List α) (x : α) (W : World) (K : Act → World → Prop), I pre W → w.heap.size ≤ W.heap.size →
      (∀ a' W', Ax x a' W' → I pre W' → KeepsFrom w.heap.size W W' → Kp W W' → K a' W') →
      assign.wpIn (F.inRound l) (n - 1 - 1) P (Exit.then K (fun _ _ _ => False)) { tmps := (ps.zip (encs x)).foldl (fun t (p, v) => t.setIfInBounds p v) a.tmps, defers := [] } W)
    (hbody : ∀ (l : Nat) (pre : List α) (x : α) (a' : Act) (W : World), I pre W → Ax x a' W → w.heap.size ≤ W.heap.size → pre ++ [x] <+: all → body.wpIn (F.inRound l) (n - 1 - 1) P (ownPostG w.heap.size Kp I Ix (pre ++ [x]) W) a' W)
    (hdone : ∀ (D : Nat) (W : World), w.heap.size ≤ D → I all W → W.heap[D]? = some (.deferred (some [])) → Q .normal { a with defers := { target := .collected D, args := #[] } :: a.defers } W)
    (hstop : ∀ (D : Nat) (c : Code) (pre : List α) (W : World), w.heap.size ≤ D → pre <+: all → Ix c pre W → W.heap[D]? = some (.deferred (some [])) → c.wpIn F n P Q { a with defers := { target := .collected D, args := #[] } :: a.defers } W) :
    (Code.rangeFunc g ps assign body).wpIn F n P Q a w := by
  refine wpIn_rangeFunc fun fn hfn => ?_
  rw [hro]
  obtain ⟨rc, hrc⟩ : ∃ rc : LoopState → Option Code → Loop, rc = fun st pe => { state := st, pending := pe, fn, tmps := a.tmps, params := ps, assign, body, defers := w.heap.size } := ⟨_, rfl⟩
  obtain ⟨V, hV⟩ : ∃ V, (w.alloc (.deferred (some []))).alloc (.loop (rc .ready none)) = V := ⟨_, rfl⟩
  have tV : Turns [] w V := by rw [← hV]; exact (Turns.alloc _ _ _).trans (Turns.alloc _ _ _)
  have hL : V.heap[w.heap.size + 1]? = some (.loop (rc .ready none)) := by
    rw [← hV]; have := World.alloc_heap_new (w.alloc (.deferred (some []))) (.loop (rc .ready none)); rwa [World.size_alloc] at this
  have hD : V.heap[w.heap.size]? = some (.deferred (some [])) := by
    rw [← hV]; exact (Below.heap_alloc _ _ _ (by simp)).trans (World.alloc_heap_new w _)
  have hIV : I [] V := hI [] w V [] h0 tV (fun k hk => by cases hk) (NumBoxes.of_turns tV (fun _ _ hm => by cases hm))
  -- what stands beside the caller's word: the loop's record, and the block of the rounds' deferred calls
  obtain ⟨Bk, hBk⟩ : ∃ Bk : LoopState → Option Code → World → Prop, Bk = fun st pe W => W.heap[w.heap.size + 1]? = some (.loop (rc st pe)) ∧ W.heap[w.heap.size]? = some (.deferred (some [])) := ⟨_, rfl⟩
  have sBk : ∀ st pe W W', Bk st pe W → Turns bs W W' → Bk st pe W' := fun st pe W W' h t => by
    rw [hBk] at h ⊢
    exact ⟨t.heap h.1 (fun hn => by have := hbs _ hn; omega), t.heap h.2 (fun hn => by have := hbs _ hn; omega)⟩
  have put : ∀ st pe st' pe' W, Bk st pe W → Bk st' pe' (W.putObj (w.heap.size + 1) (.loop (rc st' pe'))) := fun st pe st' pe' W h => by
    rw [hBk] at h ⊢
    exact ⟨World.putObj_heap_same (Array.getElem?_eq_some_iff.1 h.1).1, (World.putObj_heap_other (by omega)).trans h.2⟩
  have far : ∀ st pe W W', Bk st pe W → KeepsFrom w.heap.size W W' → Bk st pe W' := fun st pe W W' h k => by
    rw [hBk] at h ⊢
    exact ⟨k.same _ _ (by omega) h.1 rfl, k.same _ _ (Nat.le_refl _) h.2 rfl⟩
  have at1 : ∀ st pe W, Bk st pe W → W.heap[w.heap.size + 1]? = some (.loop (rc st pe)) := fun st pe W h => by rw [hBk] at h; exact h.1
  have at2 : ∀ st pe W, Bk st pe W → W.heap[w.heap.size]? = some (.deferred (some [])) := fun st pe W h => by rw [hBk] at h; exact h.2
  have szW : ∀ st pe W, Bk st pe W → w.heap.size ≤ W.heap.size := fun st pe W h => by
    have := (Array.getElem?_eq_some_iff.1 (at2 st pe W h)).1; omega
  have kp1 : ∀ st pe W o, Bk st pe W → Kp W (W.putObj (w.heap.size + 1) o) := fun st pe W o h =>
    hKn _ _ _ (Turns.putObj _ _ _) (szW st pe W h) (fun k hk => by cases List.mem_singleton.1 hk; omega)
  refine ⟨w.heap.size + 1, [{ target := .collected w.heap.size, args := #[] }], V, { target := .fn (.func gf) lb, args := #[.func (.yield (w.heap.size + 1)) #[] #[]] }, V, gf,
    #[.func (.yield (w.heap.size + 1)) #[] #[]] ++ lb, V, ?_, ?_, ?_, ?_, fun _ => h1, ?_⟩
  · rw [← hV, hrc]; exact run_enterLoop_outer _ _ _ _ _
  · simp only [resolve, hg]
    simp [go_sem]
  · intro f' hf'; simp [Target.leads] at hf'; subst hf'; exact hFg
  · simp [invoke, go_sem, eg]
  · refine (hseq (w.heap.size + 1) (fun pre W => I pre W ∧ Bk .ready none W) (fun pre W => ∃ c, Ix c pre W ∧ Bk .done (some c) W) V
      (hKn _ _ _ tV (Nat.le_refl _) (fun k hk => by cases hk))
      (fun s W W' h t hb => ⟨hI.stands s W W' h.1 t hb, sBk _ _ W W' h.2 t⟩)
      (fun s W W' h t hb => by obtain ⟨c, hc, hk⟩ := h; exact ⟨c, (hIx c).stands s W W' hc t hb, sBk _ _ W W' hk t⟩)
      ?_ ⟨hIV, by rw [hBk]; exact ⟨hL, hD⟩⟩).mono ?_
    · rintro pre x W ⟨hi, hk⟩ hpre
      have hl := at1 _ _ W hk
      have hy := run_yield (P := P) (args := encs x) hl (by rw [hrc]; exact hps x)
      rw [hrc] at hy
      refine ⟨fn, _, assign, body, hy, roundIn_of_wpIn hfn (hassign _ pre x W _ hi (szW _ _ _ hk) fun a1 W1 hax hi1 hkf hkp1 => ?_)⟩
      have hk1 := far _ _ _ _ hk hkf
      have hl1 := at1 _ _ W1 hk1
      refine ⟨_, run_beginRound hl1 (by rw [hrc]), ?_⟩
      have hb : ({ rc .ready none with state := .busy } : Loop) = rc .busy none := by rw [hrc]
      rw [hb]
      have hk2 := put _ _ .busy none W1 hk1
      refine wpIn_mono (hbody _ pre x a1 _ (hI.putObj _ hi1 (by omega) hl1 rfl) (hAx.putObj (s := (x, a1)) _ hax (by omega) hl1 rfl) (szW _ _ _ hk2) hpre) ?_
      have fin : ∀ (jump : Option Code) (W3 : World), KeepsFrom w.heap.size (W1.putObj (w.heap.size + 1) (.loop (rc .busy none))) W3 →
          (Instr.endRound (w.heap.size + 1) jump).run P W3 = .ok (.bool jump.isNone) (W3.putObj (w.heap.size + 1) (.loop (rc (if jump.isNone then .ready else .done) jump))) ∧ Bk .busy none W3 := fun jump W3 k3 => by
        have hk3 := far _ _ _ _ hk2 k3
        have := run_endRound (P := P) jump (at1 _ _ _ hk3)
        rw [hrc] at this
        rw [hrc]
        exact ⟨this, hk3⟩
      rintro e a3 W3 hp
      cases e with
      | normal =>
        obtain ⟨k3, kp3, hi3⟩ := hp
        obtain ⟨hr, hk3⟩ := fin none W3 k3
        exact ⟨_, _, hr, .inl ⟨rfl, ⟨hI.putObj _ hi3 (by omega) (at1 _ _ _ hk3) rfl, put _ _ _ _ _ hk3⟩, hKt (hKt (hKt hkp1 (kp1 _ _ _ _ hk1)) kp3) (kp1 _ _ _ _ hk3)⟩⟩
      | ret =>
        obtain ⟨k3, hi3⟩ := hp
        obtain ⟨hr, hk3⟩ := fin (some .ret) W3 k3
        exact ⟨_, _, hr, .inr ⟨rfl, .ret, (hIx _).putObj _ hi3 (by omega) (at1 _ _ _ hk3) rfl, put _ _ _ _ _ hk3⟩⟩
      | exit id =>
        obtain ⟨k3, hi3⟩ := hp
        obtain ⟨hr, hk3⟩ := fin (some (.exit id)) W3 k3
        exact ⟨_, _, hr, .inr ⟨rfl, .exit id, (hIx _).putObj _ hi3 (by omega) (at1 _ _ _ hk3) rfl, put _ _ _ _ _ hk3⟩⟩
      | goto t =>
        obtain ⟨k3, hi3⟩ := hp
        obtain ⟨hr, hk3⟩ := fin (some (.goto t)) W3 k3
        exact ⟨_, _, hr, .inr ⟨rfl, .goto t, (hIx _).putObj _ hi3 (by omega) (at1 _ _ _ hk3) rfl, put _ _ _ _ _ hk3⟩⟩
      | panic ch => exact hp.elim
      | outgrown => exact hp.elim
    · rintro e W2 ⟨⟨v, rfl⟩, (⟨hi, hk⟩ | ⟨pre, hSp, c, hi, hk⟩)⟩
      · have hl := at1 _ _ _ hk
        exact ⟨none, _, by have := run_endLoop (P := P) hl (by rw [hrc]; simp); rw [hrc] at this; exact this, hdone _ _ (Nat.le_refl _) (hI.putObj _ hi (by omega) hl rfl) ((World.putObj_heap_other (by omega)).trans (at2 _ _ _ hk))⟩
      · have hl := at1 _ _ _ hk
        exact ⟨some c, _, by have := run_endLoop (P := P) hl (by rw [hrc]; simp); rw [hrc] at this; exact this, hstop _ c pre _ (Nat.le_refl _) hSp ((hIx c).putObj _ hi (by omega) hl rfl) ((World.putObj_heap_other (by omega)).trans (at2 _ _ _ hk))⟩

end Go.Proofs.YtililoojjfcfgaaDoor

namespace Go.Proofs.YtililoojjfcfgaaDoor
set_option linter.unusedVariables false

/-- Which epoch, from which change, to which one. -/
structure CutP where
  at_ : Nat
  lo : Int
  hi : Int

/-- Where an epoch's cut ends. -/
def cutTo (index limit n : Int) : Int := if limit < n - index then index + limit else n
/-- The cuts of these epochs, the first of which is the k-th. -/
def cutsFrom : Nat → Int → Int → List Int → List CutP
  | _, _, _, [] => []
  | k, index, limit, n :: r => if n < 1 ∨ limit < 1 then [] else ⟨k, index, cutTo index limit n⟩ :: cutsFrom (k + 1) 0 (limit - (cutTo index limit n - index)) r
/-- The cuts of a page. -/
def cutsI (xs : List Int) (index limit : Int) : List CutP :=
  if xs = [] ∨ index < 0 ∨ xs.getD 0 0 ≤ index then [] else cutsFrom 0 index limit xs

def sumC (l : List CutP) : Int := (l.map fun c => c.hi - c.lo).sum
theorem sumC_nil : sumC [] = 0 := rfl
theorem sumC_cons (c : CutP) (l : List CutP) : sumC (c :: l) = (c.hi - c.lo) + sumC l := by simp [sumC]
theorem sumC_snoc (l : List CutP) (c : CutP) : sumC (l ++ [c]) = sumC l + (c.hi - c.lo) := by simp [sumC]

theorem cutTo_le {index limit n : Int} (h : index < n) (hl : 1 ≤ limit) : index < cutTo index limit n ∧ cutTo index limit n ≤ n ∧ cutTo index limit n - index ≤ limit := by
  unfold cutTo; split <;> omega

theorem cutsFrom_length : ∀ (xs : List Int) (k : Nat) (index limit : Int), (cutsFrom k index limit xs).length ≤ xs.length
  | [], _, _, _ => by simp [cutsFrom]
  | n :: r, k, index, limit => by
    unfold cutsFrom
    split
    · simp
    · simp; exact cutsFrom_length r _ _ _
theorem cutsI_length (xs : List Int) (index limit : Int) : (cutsI xs index limit).length ≤ xs.length := by
  unfold cutsI
  split
  · simp
  · exact cutsFrom_length _ _ _ _

/-- Every cut is a range of its epoch. -/
theorem cutsFrom_mem : ∀ (xs : List Int) (k : Nat) (index limit : Int), 0 ≤ index → (∀ n, xs.head? = some n → index < n ∨ n < 1) → ∀ c ∈ cutsFrom k index limit xs, 0 ≤ c.lo ∧ c.lo < c.hi ∧ k ≤ c.at_ ∧ (∃ n, xs[c.at_ - k]? = some n ∧ c.hi ≤ n)
  | [], _, _, _, _, _ => by simp [cutsFrom]
  | n :: r, k, index, limit, h0, hh => by
    unfold cutsFrom
    split
    · simp
    · rename_i hg
      have hn := (hh n rfl).resolve_right (by omega)
      have hc := cutTo_le hn (limit := limit) (by omega)
      intro c hm
      rcases List.mem_cons.1 hm with rfl | hm
      · exact ⟨h0, hc.1, Nat.le_refl _, n, by simp, hc.2.1⟩
      · obtain ⟨a, b, d, m, e, f⟩ := cutsFrom_mem r (k + 1) 0 _ (Int.le_refl _) (fun m hm => by omega) c hm
        refine ⟨a, b, by omega, m, ?_, f⟩
        rw [show c.at_ - k = (c.at_ - (k + 1)) + 1 by omega, List.getElem?_cons_succ]
        exact e

theorem cutsFrom_sum : ∀ (xs : List Int) (k : Nat) (index limit : Int), 0 ≤ index → 0 ≤ limit → (∀ n, xs.head? = some n → index < n ∨ n < 1) →
    (∀ p c q, cutsFrom k index limit xs = p ++ c :: q → sumC p + (c.hi - c.lo) ≤ limit) ∧
    (sumC (cutsFrom k index limit xs) = limit ∨ (cutsFrom k index limit xs).length = xs.length ∨ ∃ n, xs[(cutsFrom k index limit xs).length]? = some n ∧ n < 1)
  | [], _, _, _, _, _, _ => by simp [cutsFrom]
  | n :: r, k, index, limit, h0, hl, hh => by
    unfold cutsFrom
    split
    · rename_i hg
      refine ⟨by simp, ?_⟩
      rcases hg with hg | hg
      · exact .inr (.inr ⟨n, by simp, hg⟩)
      · exact .inl (by simp [sumC]; omega)
    · rename_i hg
      have hn := (hh n rfl).resolve_right (by omega)
      have hc := cutTo_le hn (limit := limit) (by omega)
      obtain ⟨ih1, ih2⟩ := cutsFrom_sum r (k + 1) 0 (limit - (cutTo index limit n - index)) (Int.le_refl _) (by omega) (fun m hm => by omega)
      refine ⟨fun p c q e => ?_, ?_⟩
      · cases p with
        | nil =>
          simp only [List.nil_append, List.cons.injEq] at e
          rw [← e.1]
          rw [sumC_nil]; show 0 + (cutTo index limit n - index) ≤ limit; omega
        | cons d p =>
          simp only [List.cons_append, List.cons.injEq] at e
          have := ih1 p c q e.2
          rw [sumC_cons, ← e.1]
          show (cutTo index limit n - index) + sumC p + (c.hi - c.lo) ≤ limit
          omega
      · rw [sumC_cons, List.length_cons, List.length_cons, List.getElem?_cons_succ]
        show (cutTo index limit n - index) + sumC _ = limit ∨ _
        rcases ih2 with h | h | h
        · exact .inl (by omega)
        · exact .inr (.inl (by omega))
        · exact .inr (.inr h)

theorem sumC_nonneg : ∀ (l : List CutP), (∀ c ∈ l, c.lo < c.hi) → (l.length : Int) ≤ sumC l
  | [], _ => by simp [sumC]
  | c :: l, h => by
    have h1 := sumC_nonneg l (fun d hd => h d (List.mem_cons_of_mem _ hd))
    have h2 := h c List.mem_cons_self
    rw [sumC_cons, List.length_cons]; omega

/-- The cuts of a page, all that is asked of them. -/
theorem cutsI_law (xs : List Int) (index limit : Int) :
    (∀ c ∈ cutsI xs index limit, 0 ≤ c.lo ∧ c.lo < c.hi ∧ (∃ n, xs[c.at_]? = some n ∧ c.hi ≤ n)) ∧
    (∀ p c q, cutsI xs index limit = p ++ c :: q → sumC p + (c.hi - c.lo) ≤ limit) ∧
    (cutsI xs index limit = [] ∨ sumC (cutsI xs index limit) = limit ∨ (cutsI xs index limit).length = xs.length ∨ ∃ n, xs[(cutsI xs index limit).length]? = some n ∧ n < 1) := by
  unfold cutsI
  split
  · simp
  · rename_i hg
    have hh : ∀ n, xs.head? = some n → index < n ∨ n < 1 := fun n hn => by
      cases xs with
      | nil => simp at hn
      | cons a r => simp at hn; subst hn; simp at hg; omega
    by_cases hl : limit < 1
    · have e : cutsFrom 0 index limit xs = [] := by
        cases xs with
        | nil => rfl
        | cons a r => unfold cutsFrom; rw [if_pos (.inr hl)]
      rw [e]; simp
    · obtain ⟨h1, h2⟩ := cutsFrom_sum xs 0 index limit (by omega) (by omega) hh
      refine ⟨fun c hc => ?_, h1, .inr h2⟩
      obtain ⟨a, b, _, n, e, f⟩ := cutsFrom_mem xs 0 index limit (by omega) hh c hc
      exact ⟨a, b, n, by simpa using e, f⟩

end Go.Proofs.YtililoojjfcfgaaDoor

namespace Go.Proofs.YtililoojjfcfgaaDoor
open Go.RowKit Go.Shelf
set_option linter.unusedVariables false
attribute [local go_sem] Oper.semAt_some

/-- These blocks lie as they lay. -/
def KeepB (ks : List Nat) (W W' : World) : Prop := W.heap.size ≤ W'.heap.size ∧ ∀ k ∈ ks, k < W.heap.size → W'.heap[k]? = W.heap[k]?
theorem KeepB.trans {ks : List Nat} {A B C : World} (h : KeepB ks A B) (k : KeepB ks B C) : KeepB ks A C :=
  ⟨Nat.le_trans h.1 k.1, fun i hi hl => (k.2 i hi (Nat.lt_of_lt_of_le hl h.1)).trans (h.2 i hi hl)⟩
theorem KeepB.refl (ks : List Nat) (A : World) : KeepB ks A A := ⟨Nat.le_refl _, fun _ _ _ => rfl⟩
theorem KeepB.of_turns {ks cs : List Nat} {A B : World} (h : Turns cs A B) (hn : ∀ k ∈ ks, k ∉ cs) : KeepB ks A B := ⟨h.size, fun k hk hl => h.block k hl (hn k hk)⟩
theorem Turns.setNew {bs : List Nat} {w W : World} (h : Turns bs w W) {p : Addr} (hp : w.heap.size ≤ p.block) (u : Value) : Turns bs w (W.setCell p u) :=
  ⟨h.os, h.tape, h.output, by simp [World.setCell]; exact h.size, fun k hk hn => (Below.heap_setCell W p u k (by omega)).trans (h.block k hk hn)⟩

def encC (c : CutP) : Array Value := #[.int .i64 c.at_, .agg #[.int .i64 c.lo, .int .i64 c.hi]]

/-- The block of a slice's cells, if it has one. -/
def slBlk : Value → List Nat
  | .slice (some a) n _ => if n = 0 then [] else [a.block]
  | _ => []

set_option maxRecDepth 100000 in
set_option maxHeartbeats 400000 in
theorem cuts_in (n : Nat) (a : Option Addr) (k cp : Nat) (index limit : Int) (w : World) :
    CallsIn Fence.wide n Tryd.prog 62 #[.slice a k cp, .int .i64 index, .int .i64 limit] w fun e w' =>
      e = .returned (.func (.func 104) #[] #[.pointer (some ⟨w.heap.size, 0, none⟩), .pointer (some ⟨w.heap.size + 1, 0, none⟩), .pointer (some ⟨w.heap.size + 1 + 1, 0, none⟩)]) ∧
      w' = ((w.alloc (.cells #[.slice a k cp] 35)).alloc (.cells #[.int .i64 index] 3)).alloc (.cells #[.int .i64 limit] 3) := by
  refine callsIn_of_wp Tryd.func62 rfl trivial ?_ rfl
  simp only [Tryd.ntmps62, List.size_toArray, List.length_cons, List.length_nil, Nat.reduceAdd, Nat.reduceSub, Array.replicate_succ, Array.replicate_zero, List.push_toArray, List.append_toArray, List.nil_append, List.cons_append]
  gi_wp2
  go_ret
  exact ⟨rfl, rfl⟩

/-- Behind a round's beginning: the boxes, the counts. -/
theorem cut_next {wr : World} {cb ib lb xb xo cp nx : Nat} {ix lm t : Int} {c : Value} {xs : List Int} (bC : Boxed wr cb 35 c) (bI : Boxed wr ib 3 (.int .i64 ix)) (bL : Boxed wr lb 3 (.int .i64 lm))
    (hX : ∀ j, j < xs.length → wr.cell? ⟨xb, xo + j, none⟩ = some (.int .i64 (xs.getD j 0))) (hxl : xb < wr.heap.size) (hne : cb ≠ ib ∧ cb ≠ lb ∧ ib ≠ lb) (hxb : xb ≠ ib ∧ xb ≠ lb) (cs : Array Value) (n1 n2 : Int) :
    Boxed (((wr.alloc (.cells cs 43)).setCell ⟨lb, 0, none⟩ (.int .i64 n1)).setCell ⟨ib, 0, none⟩ (.int .i64 n2)) cb 35 c ∧
    Boxed (((wr.alloc (.cells cs 43)).setCell ⟨lb, 0, none⟩ (.int .i64 n1)).setCell ⟨ib, 0, none⟩ (.int .i64 n2)) ib 3 (.int .i64 n2) ∧
    Boxed (((wr.alloc (.cells cs 43)).setCell ⟨lb, 0, none⟩ (.int .i64 n1)).setCell ⟨ib, 0, none⟩ (.int .i64 n2)) lb 3 (.int .i64 n1) ∧
    (∀ j, j < xs.length → (((wr.alloc (.cells cs 43)).setCell ⟨lb, 0, none⟩ (.int .i64 n1)).setCell ⟨ib, 0, none⟩ (.int .i64 n2)).cell? ⟨xb, xo + j, none⟩ = some (.int .i64 (xs.getD j 0))) ∧
    Turns [ib, lb] wr (((wr.alloc (.cells cs 43)).setCell ⟨lb, 0, none⟩ (.int .i64 n1)).setCell ⟨ib, 0, none⟩ (.int .i64 n2)) ∧
    NumBoxes [ib, lb] wr (((wr.alloc (.cells cs 43)).setCell ⟨lb, 0, none⟩ (.int .i64 n1)).setCell ⟨ib, 0, none⟩ (.int .i64 n2)) := by
  have ht : Turns [ib, lb] wr (((wr.alloc (.cells cs 43)).setCell ⟨lb, 0, none⟩ (.int .i64 n1)).setCell ⟨ib, 0, none⟩ (.int .i64 n2)) :=
    ((Turns.alloc _ _ _).trans (Turns.setCell _ _ (by simp) _)).trans (Turns.setCell _ _ (by simp) _)
  have h1 : Boxed (((wr.alloc (.cells cs 43)).setCell ⟨lb, 0, none⟩ (.int .i64 n1)).setCell ⟨ib, 0, none⟩ (.int .i64 n2)) ib 3 (.int .i64 n2) :=
    (((bI.alloc _).kept (grownBy_setCell' _ lb _) (by simp; exact hne.2.2)).set _)
  have h2 : Boxed (((wr.alloc (.cells cs 43)).setCell ⟨lb, 0, none⟩ (.int .i64 n1)).setCell ⟨ib, 0, none⟩ (.int .i64 n2)) lb 3 (.int .i64 n1) :=
    (((bL.alloc _).set _).kept (grownBy_setCell' _ ib _) (by simp; exact fun e => hne.2.2 e.symm))
  refine ⟨(ht.block cb bC.lt (by simp; exact ⟨hne.1, hne.2.1⟩)).trans bC, h1, h2, fun j hj => ?_, ht, fun k hk t n hb => ?_⟩
  · exact (World.cell?_of_block (ht.block xb hxl (by simp; exact hxb))).trans (hX j hj)
  · rcases List.mem_cons.1 hk with rfl | hk
    · have e := (show wr.heap[k]? = _ from bI).symm.trans hb
      simp at e
      obtain ⟨_, rfl⟩ := e
      exact ⟨_, h1⟩
    · obtain rfl := List.mem_singleton.1 hk
      have e := (show wr.heap[k]? = _ from bL).symm.trans hb
      simp at e
      obtain ⟨_, rfl⟩ := e
      exact ⟨_, h2⟩

theorem cuts_step {k : Nat} {index limit : Int} {n : Int} {r : List Int} (h1 : 1 ≤ n) (h2 : 1 ≤ limit) :
    cutsFrom k index limit (n :: r) = ⟨k, index, cutTo index limit n⟩ :: cutsFrom (k + 1) 0 (limit - (cutTo index limit n - index)) r := by
  rw [cutsFrom, if_neg (by omega)]

set_option maxRecDepth 100000 in
set_option maxHeartbeats 1000000 in
theorem cutsRun (n : Nat) (hn : 1 ≤ n) (a : Option Addr) (cp : Nat) (xs : List Int) (index limit : Int) (cb ib lb : Nat) (hne : cb ≠ ib ∧ cb ≠ lb ∧ ib ≠ lb) (hx64 : ∀ x ∈ xs, -9223372036854775808 ≤ x ∧ x ≤ 9223372036854775807) (hi64 : -9223372036854775808 ≤ index ∧ index ≤ 9223372036854775807) (hl64 : -9223372036854775808 ≤ limit ∧ limit ≤ 9223372036854775807)
    (hxb : ∀ k ∈ slBlk (.slice a xs.length cp), k ≠ ib ∧ k ≠ lb) (w : World)
    (bc : Boxed w cb 35 (.slice a xs.length cp)) (bi : Boxed w ib 3 (.int .i64 index)) (bl : Boxed w lb 3 (.int .i64 limit)) (hs : Sl w (.slice a xs.length cp) (xs.map (Value.int .i64))) :
    SeqBoxes Fence.wide n Tryd.prog 104 #[.pointer (some ⟨cb, 0, none⟩), .pointer (some ⟨ib, 0, none⟩), .pointer (some ⟨lb, 0, none⟩)] encC [ib, lb]
      (KeepB (cb :: ib :: lb :: slBlk (.slice a xs.length cp))) (cutsI xs index limit) w := by
  intro l J Jx W hk hJ hJx hY h0
  refine callsIn_of_wp Tryd.func104 rfl trivial ?_ rfl
  simp only [Tryd.ntmps104, List.size_toArray, List.length_cons, List.length_nil, Nat.reduceAdd, Nat.reduceSub, Array.replicate_succ, Array.replicate_zero, List.push_toArray, List.append_toArray, List.nil_append, List.cons_append]
  have bc1 : Boxed W cb 35 (.slice a xs.length cp) := (hk.2 _ (by simp) bc.lt).trans bc
  have bi1 : Boxed W ib 3 (.int .i64 index) := (hk.2 _ (by simp) bi.lt).trans bi
  have bl1 : Boxed W lb 3 (.int .i64 limit) := (hk.2 _ (by simp) bl.lt).trans bl
  have hs1 : Sl W (.slice a xs.length cp) (xs.map (Value.int .i64)) := by
    obtain ⟨a', cap', h0, h1, h2, h3⟩ := hs
    have hl : (xs.map (Value.int .i64)).length = xs.length := by simp
    rw [hl] at h0; cases h0
    refine ⟨_, _, by rw [hl], h1, h2, fun hp => ?_⟩
    obtain ⟨b, off, rfl, hlt, hc⟩ := h3 hp
    have h0 : ¬ xs.length = 0 := by rw [hl] at hp; omega
    exact ⟨b, off, rfl, Nat.lt_of_lt_of_le hlt hk.1, fun j u hu => (World.cell?_of_block (hk.2 b (by simp [slBlk, h0]) hlt)).trans (hc j u hu)⟩
  have hcp : xs.length ≤ cp ∧ cp ≤ 9223372036854775807 := hs.len.2
  clear bc bi bl hs
  obtain ⟨c1, f1, c2, f2, c3, f3⟩ : _ ∧ _ ∧ _ ∧ _ ∧ _ ∧ _ := ⟨bc1.cell, bc1.frozen, bi1.cell, bi1.frozen, bl1.cell, bl1.frozen⟩
  have turn : ∀ k, Turns [ib, lb] W (W.drewN k) := fun k => ⟨rfl, rfl, rfl, Nat.le_refl _, fun _ _ _ => rfl⟩
  have out : ∀ k, cutsI xs index limit = [] → J (cutsI xs index limit) (W.drewN k) := fun k e => by rw [e]; exact hJ _ _ _ h0 (turn k) (NumBoxes.same fun _ => rfl)
  by_cases hA : xs.length = 0
  · have hAI : ((xs.length : Int) == 0) = true := by simp [hA]
    have HO := Lib.hid (fun k => out k (by unfold cutsI; rw [if_pos (.inl (List.length_eq_zero_iff.1 hA))]))
    clear out hk hJ hJx hY hs1
    gi_wp2
    gi_quiet (fail)
    gi_wp2
    refine bodyPost_ret (results_none rfl _ _ _) rfl ?_
    exact ⟨⟨_, rfl⟩, .inl (HO.out _)⟩
  have hAI : ((xs.length : Int) == 0) = false := by simp [hA]
  have hAN : ¬ xs.length = 0 := hA
  by_cases hB : index < 0
  · have HO := Lib.hid (fun k => out k (by unfold cutsI; rw [if_pos (.inr (.inl hB))]))
    clear out hk hJ hJx hY hs1
    gi_wp2
    gi_quiet (fail)
    gi_wp2
    refine bodyPost_ret (results_none rfl _ _ _) rfl ?_
    exact ⟨⟨_, rfl⟩, .inl (HO.out _)⟩
  have hBd : decide (index < 0) = false := decide_eq_false hB
  obtain ⟨xb, xo, rfl, hxlt, hcell⟩ := hs1.ints (k := 0) (by omega)
  have cx0 := hcell 0 (by omega)
  rw [Nat.add_zero] at cx0
  by_cases hC : xs.getD 0 0 ≤ index
  · have HO := Lib.hid (fun k => out k (by unfold cutsI; rw [if_pos (.inr (.inr hC))]))
    generalize xs.getD 0 0 = x0 at *
    clear out hk hJ hJx hY hs1 hcell
    gi_wp2
    gi_quiet (fail)
    gi_wp2
    refine bodyPost_ret (results_none rfl _ _ _) rfl ?_
    exact ⟨⟨_, rfl⟩, .inl (HO.out _)⟩
  have hCd : decide (xs.getD 0 0 ≤ index) = false := decide_eq_false hC
  have HALL := Lib.hid (show cutsI xs index limit = cutsFrom 0 index limit xs by unfold cutsI; rw [if_neg (by simp only [not_or]; exact ⟨fun e => hA (by rw [e]; rfl), hB, hC⟩)])
  generalize cutsI xs index limit = all at *
  have HX0 := Lib.hid cx0
  generalize xs.getD 0 0 = x0 at cx0 hCd
  have HC := Lib.hid hcell
  have HS := Lib.hid hs1
  have HY := Lib.hid hY
  have HJ := Lib.hid hJ
  have HJX := Lib.hid hJx
  have HT := Lib.hid turn
  clear out hk hJ hJx hY hs1 hcell turn
  have hN0 : xs.drop 0 = xs := rfl
  gi_wp2
  gi_quiet (fail)
  gi_wp2
  gi_loopw [24] (fun v wr => ∃ (k : Nat) (pre : List CutP) (ix lm : Int), k ≤ xs.length ∧ v = .int .i64 k ∧ Hid (all = pre ++ cutsFrom k ix lm (xs.drop k)) ∧ Boxed wr cb 35 (.slice (some ⟨xb, xo, none⟩) xs.length cp) ∧ Boxed wr ib 3 (.int .i64 ix) ∧ Boxed wr lb 3 (.int .i64 lm) ∧
      Hid (∀ j, j < xs.length → wr.cell? ⟨xb, xo + j, none⟩ = some (.int .i64 (xs.getD j 0))) ∧ Hid (J pre wr) ∧ xb < wr.heap.size ∧ 0 ≤ ix ∧ Hid (∀ n, xs[k]? = some n → 1 ≤ n → ix < n) ∧ -9223372036854775808 ≤ lm ∧ lm ≤ 9223372036854775807) (fun v _ => xs.length - (intOf v).toNat)
  case atStart =>
    refine ⟨0, [], index, limit, by omega, rfl, HALL, bc1, bi1, bl1, HC, ?_, hxlt, by omega, ?_, hl64.1, hl64.2⟩
    · exact HJ.out _ _ _ h0 (HT.out _) (NumBoxes.same fun _ => rfl)
    · intro n hn h1
      have := HX0.out
      rw [List.getD_eq_getElem?_getD, hn] at hC
      simpa using hC
  case round =>
    obtain ⟨k, pre, ix, lm, hk, rfl, HA, bC, bI, bL, HX, HJp, hxl2, h0ix, HIX, hl1, hl2⟩ := hrel
    clear bc1 bi1 bl1 c1 f1 c2 f2 c3 f3 cx0 hCd hBd HX0 HALL h0 hxlt
    obtain ⟨c1, f1, c2, f2, c3, f3⟩ : _ ∧ _ ∧ _ ∧ _ ∧ _ ∧ _ := ⟨bC.cell, bC.frozen, bI.cell, bI.frozen, bL.cell, bL.frozen⟩
    by_cases hlt : k < xs.length
    · obtain ⟨m, hm⟩ : ∃ m, xs[k]? = some m := ⟨xs[k], List.getElem?_eq_getElem hlt⟩
      have hmb := hx64 m (List.mem_of_getElem? hm)
      have cm : wr.cell? ⟨xb, xo + k, none⟩ = some (.int .i64 m) := by have := HX.out k hlt; rw [List.getD_eq_getElem?_getD, hm] at this; exact this
      have hdrop : xs.drop k = m :: xs.drop (k + 1) := by
        rw [List.drop_eq_getElem_cons hlt]
        rw [List.getElem?_eq_getElem hlt] at hm
        cases hm; rfl
      have hkI : (k : Int) < (xs.length : Int) := by omega
      have HLT := Lib.hid hlt
      by_cases h1 : m < 1
      · have e : cutsFrom k ix lm (xs.drop k) = [] := by rw [hdrop, cutsFrom, if_pos (.inl h1)]
        have HO := Lib.hid (show J all wr by have := HA.out; rw [e, List.append_nil] at this; rw [this]; exact HJp.out)
        clear e hdrop hm HA
        gi_wp2
        refine bodyPost_ret (results_none rfl _ _ _) rfl ?_
        exact ⟨⟨_, rfl⟩, .inl HO.out⟩
      by_cases h2 : lm < 1
      · have e : cutsFrom k ix lm (xs.drop k) = [] := by rw [hdrop, cutsFrom, if_pos (.inr h2)]
        have HO := Lib.hid (show J all wr by have := HA.out; rw [e, List.append_nil] at this; rw [this]; exact HJp.out)
        clear e hdrop hm HA
        gi_wp2
        refine bodyPost_ret (results_none rfl _ _ _) rfl ?_
        exact ⟨⟨_, rfl⟩, .inl HO.out⟩
      have hix := HIX.out m hm (by omega)
      have HM := Lib.hid hm
      have HD := Lib.hid hdrop
      clear hdrop hm
      have ne1 : ¬ lb = wr.heap.size := by have := bL.lt; omega
      have ne2 : ¬ ib = wr.heap.size := by have := bI.lt; omega
      have ne3 : ¬ wr.heap.size = lb := fun e => ne1 e.symm
      have ne4 : ¬ wr.heap.size = ib := fun e => ne2 e.symm
      have ne5 : ¬ ib = lb := hne.2.2
      have ne6 : ¬ lb = ib := fun e => ne5 e.symm
      have bI1 := bI.alloc (.cells #[.int .i64 ix, .int .i64 m] 43)
      have bL1 := bL.alloc (.cells #[.int .i64 ix, .int .i64 m] 43)
      have cI1 := bI1.cell
      have fI1 := bI1.frozen
      have cL1 := bL1.cell
      have fL1 := bL1.frozen
      have HB := Lib.hid (show xb ∈ cb :: ib :: lb :: slBlk (.slice (some ⟨xb, xo, none⟩) xs.length cp) by simp [slBlk, hAN])
      have hxb' : xb ≠ ib ∧ xb ≠ lb := hxb xb (by simp [slBlk, hAN])
      by_cases h3 : lm < m - ix
      · have bI2 := bI.alloc (.cells #[.int .i64 ix, .int .i64 (ix + lm)] 43)
        have bL2 := bL.alloc (.cells #[.int .i64 ix, .int .i64 (ix + lm)] 43)
        have cI2 := bI2.cell
        have fI2 := bI2.frozen
        have cL2 := bL2.cell
        have fL2 := bL2.frozen
        have TO := Lib.hid (show cutTo ix lm m = ix + lm by unfold cutTo; rw [if_pos h3])
        obtain ⟨nC, nI, nL, nX, nT, nB⟩ := cut_next (cp := cp) (nx := 0) (t := 0) bC bI bL HX.out hxl2 hne hxb' #[.int .i64 ix, .int .i64 (ix + lm)] (lm - (ix + lm - ix)) 0
        have hJ1 := HJ.out _ _ _ HJp.out nT nB
        have hst := cuts_step (k := k) (index := ix) (limit := lm) (n := m) (r := xs.drop (k + 1)) (by omega) (by omega)
        rw [TO.out, ← HD.out] at hst
        have HPRE := Lib.hid (show pre ++ [⟨k, ix, ix + lm⟩] <+: all by rw [HA.out, hst]; exact ⟨cutsFrom (k + 1) 0 (lm - (ix + lm - ix)) (xs.drop (k + 1)), by simp⟩)
        have HA2 := Lib.hid (show all = (pre ++ [⟨k, ix, ix + lm⟩]) ++ cutsFrom (k + 1) 0 (lm - (ix + lm - ix)) (xs.drop (k + 1)) by rw [HA.out, hst]; simp)
        obtain ⟨fn, tmps, assign, body, hy, hR⟩ := HY.out pre ⟨k, ix, ix + lm⟩ _ hJ1 HPRE.out
        simp only [encC] at hy
        have HR := Lib.hid hR
        have HN := Lib.hid (And.intro nC (And.intro nI (And.intro nL (And.intro nX nT))))
        have hlm := (show -9223372036854775808 ≤ lm - (ix + lm - ix) ∧ lm - (ix + lm - ix) ≤ 9223372036854775807 by omega)
        have HLM := Lib.hid hlm
        clear hR nC nI nL nX nT nB hJ1 hst HA hlm
        gi_wp2
        refine HR.out.mono ?_
        rintro e W3 (⟨rfl, hJ3, hk3⟩ | ⟨rfl, hJx3⟩)
        · obtain ⟨nC, nI, nL, nX, nT⟩ := HN.out
          have xlt := Nat.lt_of_lt_of_le hxl2 nT.size
          have rC := (hk3.2 _ (by simp) nC.lt).trans nC
          have rI := (hk3.2 _ (by simp) nI.lt).trans nI
          have rL := (hk3.2 _ (by simp) nL.lt).trans nL
          have RX := Lib.hid (fun j hj => (World.cell?_of_block (hk3.2 xb HB.out xlt)).trans (nX j hj))
          have xlt3 := Nat.lt_of_lt_of_le xlt hk3.1
          have HJ3 := Lib.hid hJ3
          clear nC nI nL nX nT hJ3 hk3 hy
          gi_wp2
          go_roundw
          case rel => exact ⟨k + 1, _, 0, _, HLT.out, by go_num, HA2, rC, rI, rL, RX, HJ3, xlt3, Int.le_refl _, Lib.hid (fun y _ hy1 => by omega), HLM.out.1, HLM.out.2⟩
          case measure => simp [intOf]; have := HLT.out; omega
        · clear hy
          gi_wp2
          refine bodyPost_ret (results_none rfl _ _ _) rfl ?_
          exact ⟨⟨_, rfl⟩, .inr ⟨_, HPRE.out, hJx3⟩⟩
      · have TO := Lib.hid (show cutTo ix lm m = m by unfold cutTo; rw [if_neg h3])
        obtain ⟨nC, nI, nL, nX, nT, nB⟩ := cut_next (cp := cp) (nx := 0) (t := 0) bC bI bL HX.out hxl2 hne hxb' #[.int .i64 ix, .int .i64 (m)] (lm - (m - ix)) 0
        have hJ1 := HJ.out _ _ _ HJp.out nT nB
        have hst := cuts_step (k := k) (index := ix) (limit := lm) (n := m) (r := xs.drop (k + 1)) (by omega) (by omega)
        rw [TO.out, ← HD.out] at hst
        have HPRE := Lib.hid (show pre ++ [⟨k, ix, m⟩] <+: all by rw [HA.out, hst]; exact ⟨cutsFrom (k + 1) 0 (lm - (m - ix)) (xs.drop (k + 1)), by simp⟩)
        have HA2 := Lib.hid (show all = (pre ++ [⟨k, ix, m⟩]) ++ cutsFrom (k + 1) 0 (lm - (m - ix)) (xs.drop (k + 1)) by rw [HA.out, hst]; simp)
        obtain ⟨fn, tmps, assign, body, hy, hR⟩ := HY.out pre ⟨k, ix, m⟩ _ hJ1 HPRE.out
        simp only [encC] at hy
        have HR := Lib.hid hR
        have HN := Lib.hid (And.intro nC (And.intro nI (And.intro nL (And.intro nX nT))))
        have hlm := (show -9223372036854775808 ≤ lm - (m - ix) ∧ lm - (m - ix) ≤ 9223372036854775807 by omega)
        have HLM := Lib.hid hlm
        clear hR nC nI nL nX nT nB hJ1 hst HA hlm
        gi_wp2
        refine HR.out.mono ?_
        rintro e W3 (⟨rfl, hJ3, hk3⟩ | ⟨rfl, hJx3⟩)
        · obtain ⟨nC, nI, nL, nX, nT⟩ := HN.out
          have xlt := Nat.lt_of_lt_of_le hxl2 nT.size
          have rC := (hk3.2 _ (by simp) nC.lt).trans nC
          have rI := (hk3.2 _ (by simp) nI.lt).trans nI
          have rL := (hk3.2 _ (by simp) nL.lt).trans nL
          have RX := Lib.hid (fun j hj => (World.cell?_of_block (hk3.2 xb HB.out xlt)).trans (nX j hj))
          have xlt3 := Nat.lt_of_lt_of_le xlt hk3.1
          have HJ3 := Lib.hid hJ3
          clear nC nI nL nX nT hJ3 hk3 hy
          gi_wp2
          go_roundw
          case rel => exact ⟨k + 1, _, 0, _, HLT.out, by go_num, HA2, rC, rI, rL, RX, HJ3, xlt3, Int.le_refl _, Lib.hid (fun y _ hy1 => by omega), HLM.out.1, HLM.out.2⟩
          case measure => simp [intOf]; have := HLT.out; omega
        · clear hy
          gi_wp2
          refine bodyPost_ret (results_none rfl _ _ _) rfl ?_
          exact ⟨⟨_, rfl⟩, .inr ⟨_, HPRE.out, hJx3⟩⟩
    · obtain rfl : k = xs.length := by omega
      have HO := Lib.hid (show J all wr by have := HA.out; rw [List.drop_length, cutsFrom, List.append_nil] at this; rw [this]; exact HJp.out)
      clear HA
      gi_wp2
      go_end0
      exact ⟨⟨_, rfl⟩, .inl HO.out⟩

end Go.Proofs.YtililoojjfcfgaaDoor

namespace Go.Proofs.YtililoojjfcfgaaDoor
open Go.RowKit Go.Shelf
set_option linter.unusedVariables false
attribute [local go_sem] Oper.semAt_some

def flatC (l : List CutP) : List Value := l.flatMap fun c => [.int .i64 c.lo, .int .i64 c.hi]
theorem flatC_len (l : List CutP) : (flatC l).length = l.length * 2 := by
  induction l with
  | nil => rfl
  | cons c l ih => simp only [flatC, List.flatMap_cons, List.length_append, List.length_cons, List.length_nil] at *; omega
theorem flatC_snoc (l : List CutP) (c : CutP) : flatC (l ++ [c]) = flatC l ++ [.int .i64 c.lo, .int .i64 c.hi] := by simp [flatC]
theorem flatC_get : ∀ (l : List CutP) (k : Nat) (c : CutP), l[k]? = some c → (flatC l)[k * 2]? = some (.int .i64 c.lo) ∧ (flatC l)[k * 2 + 1]? = some (.int .i64 c.hi)
  | [], k, c, h => by simp at h
  | d :: l, 0, c, h => by simp at h; subst h; simp [flatC]
  | d :: l, k + 1, c, h => by
    have := flatC_get l k c (by simpa using h)
    have e : flatC (d :: l) = .int .i64 d.lo :: .int .i64 d.hi :: flatC l := by simp [flatC]
    rw [e, show (k + 1) * 2 = (k * 2) + 1 + 1 by omega]
    simpa using this

theorem infoC : (Tryd.prog.info? 43).map (fun i => (i.zero, i.size, i.bytes)) = some (some (.agg #[.int .i64 0, .int .i64 0]), 2, 16) := by kernel_rfl

/-- A box that no turning touches. -/
theorem boxed_turns {cs : List Nat} {W W' : World} {B : Nat} {t : TypeId} {v : Value} (h : Boxed W B t v) (ht : Turns cs W W') (hn : B ∉ cs) : Boxed W' B t v := (ht.block B h.lt hn).trans h
theorem owns_turns {cs : List Nat} {w w' : World} (h : Turns cs w w') {base : Nat} {e : TypeId} {size : Nat} {v : Value} {n : Nat} {xs : List Value} (r : w.ownsRow base e size v n xs) (hn : ∀ g, v.ownBlock = some g → g ∉ cs) : w'.ownsRow base e size v n xs := by
  obtain ⟨h1, h2⟩ := r
  refine ⟨h1, ?_⟩
  rcases h2 with h2 | ⟨g, cap, cur, hv, hg, hh, r⟩
  · exact Or.inl h2
  · exact Or.inr ⟨g, cap, cur, hv, hg, h.heap hh (hn g (by rw [hv]; rfl)), r⟩
theorem owns_cells {w : World} {base : Nat} {e : TypeId} {size : Nat} {v : Value} {n : Nat} {xs : List Value} (r : w.ownsRow base e size v n xs) {g : Nat} (hg : v.ownBlock = some g) : base ≤ g ∧ ∃ cur, w.heap[g]? = some (.cells cur e (0, 0)) := by
  rcases r.2 with ⟨rfl, _⟩ | ⟨g', cap, cur, rfl, hb, hh, _⟩
  · simp [Value.ownBlock] at hg
  · obtain rfl : g' = g := by simpa [Value.ownBlock] using hg
    exact ⟨hb, cur, hh⟩

theorem owns_base {w : World} {b0 b1 : Nat} {e : TypeId} {size : Nat} {v : Value} {n : Nat} {xs : List Value} (h : w.ownsRow b1 e size v n xs) (hb : b0 ≤ b1) : w.ownsRow b0 e size v n xs := by
  obtain ⟨h1, h2⟩ := h
  refine ⟨h1, h2.imp id ?_⟩
  rintro ⟨g, cap, cur, hv, hg, hr⟩
  exact ⟨g, cap, cur, hv, by omega, hr⟩
/-- Behind 'out = append(out, ..)', where out lies in a box. -/
theorem box_append {W w1 : World} {base B : Nat} {t e : TypeId} {size : Nat} {v v' : Value} {k m : Nat} {xs ys : List Value} {tmp : Obj} (hv : Boxed W B t v) (hte : t ≠ e) (hrow : W.ownsRow base e size v k xs)
    (hown : w1.ownsRow base e size v' m ys) (hg : (W.alloc tmp).grownBy w1 v.ownBlock) :
    Boxed w1 B t v ∧ Boxed (w1.setCell ⟨B, 0, none⟩ v') B t v' ∧ (w1.setCell ⟨B, 0, none⟩ v').ownsRow base e size v' m ys ∧ KeepsOthers W (w1.setCell ⟨B, 0, none⟩ v') ∧ Turns (B :: v.ownBlock.toList) W (w1.setCell ⟨B, 0, none⟩ v') ∧ (∀ g ∈ v.ownBlock.toList, base ≤ g) := by
  have hv1 : Boxed w1 B t v := (hv.alloc tmp).kept hg (hv.not_row hte hrow)
  refine ⟨hv1, hv1.set v', hown.kept (grownBy_setCell' w1 B v') (.inr (hv1.not_row hte hown).symm), ?_, ?_, fun g hm => (owns_cells hrow (by simpa using hm)).1⟩
  · refine ((KeepsOthers.alloc W tmp).trans (KeepsOthers.of_grownBy hg fun j o ej hj => ?_)).trans (KeepsOthers.setCell _ _ _)
    obtain ⟨_, cur, hh⟩ := owns_cells (hrow.alloc tmp) ej
    rw [hh] at hj; cases hj; rfl
  · exact ((Turns.alloc _ _ _).trans (Turns.of_grown hg fun g e => by simp [e])).trans (Turns.setCell _ _ (by simp) _)

/-- A box and the row that its slice owns do not mind what an iterator and the loop turn. -/
theorem boxRow_own {β : Type} (B : Nat) (bs : List Nat) (n₀ : Nat) (w : World) (X base : Nat) (t e : TypeId) (size : Nat) (kf : β → Nat) (f : β → List Value) (G : β → Value → Prop) (hX : X ∉ bs) (hbase : ∀ k ∈ bs, k < base) (hn : n₀ ≤ w.heap.size) (hb : ∀ k ∈ bs, n₀ ≤ k) (hB : n₀ ≤ B) :
    OwnBx B bs (fun (s : β) W => (∃ v, Boxed W X t v ∧ W.ownsRow base e size v (kf s) (f s) ∧ G s v) ∧ Below n₀ w W) := by
  rintro s W W' cs ⟨⟨v, hv, hr, hG⟩, hbl⟩ ht hcs _
  refine ⟨⟨v, boxed_turns hv ht (fun hm => ?_), owns_turns ht hr (fun g hg hm => ?_), hG⟩, ht.toBelow hbl (Nat.le_trans hn hbl.size) (fun k hk => ?_)⟩
  · rcases hcs X hm with h | ⟨_, o, ho, hc⟩
    · exact hX h
    · rw [show W.heap[X]? = _ from hv] at ho; cases ho; cases hc
  · obtain ⟨h1, cur, h2⟩ := owns_cells hr hg
    rcases hcs g hm with h | ⟨_, o, ho, hc⟩
    · have := hbase g h; omega
    · rw [h2] at ho; cases ho; cases hc
  · rcases hcs k hk with h | ⟨h, _⟩
    · exact hb k h
    · omega

set_option maxRecDepth 100000 in
set_option maxHeartbeats 2000000 in
theorem Cuts_any (a : Option Addr) (cp : Nat) (xs : List Int) (index limit : Int) (hx64 : ∀ x ∈ xs, -9223372036854775808 ≤ x ∧ x ≤ 9223372036854775807) (hi64 : -9223372036854775808 ≤ index ∧ index ≤ 9223372036854775807) (hl64 : -9223372036854775808 ≤ limit ∧ limit ≤ 9223372036854775807)
    (hlen : xs.length ≤ 1000000) (w : World) (hs : Sl w (.slice a xs.length cp) (xs.map (Value.int .i64))) :
    Calls Tryd.prog 23 #[.slice a xs.length cp, .int .i64 index, .int .i64 limit] w fun e w' => ∃ v, e = .returned v ∧ w'.ownsRow w.heap.size 43 2 v (cutsI xs index limit).length (flatC (cutsI xs index limit)) ∧ Below w.heap.size w w' := by
  refine (callsIn_wide (n := 4)).1 ?_
  obtain ⟨i0, hi, hz0, hz1, hz2⟩ := info_parts infoC
  refine callsIn_of_wp_marks Tryd.func23 rfl trivial ?_ rfl
  simp only [Tryd.ntmps23, List.size_toArray, List.length_cons, List.length_nil, Nat.reduceAdd, Nat.reduceSub, Array.replicate_succ, Array.replicate_zero, List.push_toArray, List.append_toArray, List.nil_append, List.cons_append]
  have HS := Lib.hid hs
  clear hs
  gi_wp2_with (refine ⟨trivial, ?_⟩; gi_at_call 62; refine (cuts_in _ _ _ _ _ _ _).mono ?_; rintro e w' ⟨rfl, rfl⟩)
  have hs := HS.out
  clear HS
  obtain ⟨W0, hW0⟩ : ∃ W0, ((((w.alloc (.cells #[.slice none 0 0] 41)).alloc (.cells #[.slice a xs.length cp] 35)).alloc (.cells #[.int .i64 index] 3)).alloc (.cells #[.int .i64 limit] 3)) = W0 := ⟨_, rfl⟩
  have b0 : Boxed W0 w.heap.size 41 (.slice none 0 0) := by rw [← hW0]; exact (((Boxed.new w _ _).alloc _).alloc _).alloc _
  have b1 : Boxed W0 (w.heap.size + 1) 35 (.slice a xs.length cp) := by
    rw [← hW0]
    have := ((Boxed.new (w.alloc (.cells #[.slice none 0 0] 41)) 35 (.slice a xs.length cp)).alloc (.cells #[.int .i64 index] 3)).alloc (.cells #[.int .i64 limit] 3)
    simpa using this
  have b2 : Boxed W0 (w.heap.size + 1 + 1) 3 (.int .i64 index) := by
    rw [← hW0]
    have := (Boxed.new ((w.alloc (.cells #[.slice none 0 0] 41)).alloc (.cells #[.slice a xs.length cp] 35)) 3 (.int .i64 index)).alloc (.cells #[.int .i64 limit] 3)
    simpa using this
  have b3 : Boxed W0 (w.heap.size + 1 + 1 + 1) 3 (.int .i64 limit) := by
    rw [← hW0]
    have := Boxed.new (((w.alloc (.cells #[.slice none 0 0] 41)).alloc (.cells #[.slice a xs.length cp] 35)).alloc (.cells #[.int .i64 index] 3)) 3 (.int .i64 limit)
    simpa using this
  have hB0 : Below w.heap.size w W0 := by rw [← hW0]; exact ((((Below.refl _ w).alloc (Nat.le_refl _) _).alloc (by simp) _).alloc (by simp; omega) _).alloc (by simp; omega) _
  have hsz : W0.heap.size = w.heap.size + 4 := by rw [← hW0]; simp
  have hs0 := hs.below hB0 (Nat.le_refl _)
  have hxb : ∀ k ∈ slBlk (.slice a xs.length cp), k < w.heap.size := by
    intro k hk
    by_cases h0 : xs.length = 0
    · cases a <;> simp [slBlk, h0] at hk
    · obtain ⟨b, off, rfl, hlt, _⟩ := hs.ints (k := 0) (by omega)
      simp [slBlk, h0] at hk
      omega
  have hOwn := boxRow_own (β := List CutP) W0.heap.size [w.heap.size + 1 + 1, w.heap.size + 1 + 1 + 1] w.heap.size w w.heap.size W0.heap.size 41 43 2 List.length flatC (fun _ _ => True) (by simp; omega) (fun k hk => by simp at hk; omega) (Nat.le_refl _) (fun k hk => by simp at hk; omega) (by omega)
  rw [hW0]
  clear hW0
  refine wpIn_range_boxes rfl (by omega) (gf := 104) (lb := #[.pointer (some ⟨w.heap.size + 1, 0, none⟩), .pointer (some ⟨w.heap.size + 1 + 1, 0, none⟩), .pointer (some ⟨w.heap.size + 1 + 1 + 1, 0, none⟩)]) rfl trivial (enters_of Tryd.func104 (by kernel_rfl) rfl)
    (cutsRun 3 (by omega) a cp xs index limit (w.heap.size + 1) (w.heap.size + 1 + 1) (w.heap.size + 1 + 1 + 1) (by omega) hx64 hi64 hl64 (fun k hk => by have := hxb k hk; omega) W0 b1 b2 b3 hs0)
    (fun k hk => by simp at hk; omega) (fun h k => h.trans k) ?kn (fun _ => rfl)
    (fun pre W => (∃ v, Boxed W w.heap.size 41 v ∧ W.ownsRow W0.heap.size 43 2 v pre.length (flatC pre) ∧ True) ∧ Below w.heap.size w W)
    (fun _ _ _ => False)
    hOwn
    (fun _ _ _ _ _ h _ _ _ => h)
    ⟨⟨_, b0, World.ownsRow_nil _ _ _ _, trivial⟩, hB0⟩
    (fun x a' W => ∃ Bx, W0.heap.size ≤ Bx ∧ Blk W Bx 43 #[.int .i64 x.lo, .int .i64 x.hi] ∧ a' = { tmps := #[.slice a xs.length cp, .int .i64 index, .int .i64 limit, undef, undef, undef, .slice none 0 0, .pointer (some ⟨w.heap.size, 0, none⟩), undef, .pointer (some ⟨Bx, 0, none⟩), .slice a xs.length cp, .int .i64 index, .int .i64 limit, .func (.func 104) #[] #[.pointer (some ⟨w.heap.size + 1, 0, none⟩), .pointer (some ⟨w.heap.size + 1 + 1, 0, none⟩), .pointer (some ⟨w.heap.size + 1 + 1 + 1, 0, none⟩)], .int .i64 x.at_, .agg #[.int .i64 x.lo, .int .i64 x.hi], undef, undef, undef, undef, undef], defers := [] })
    ?ax ?assign ?body ?done ?stop
  case kn =>
    intro W W' cs ht hle hcs
    refine KeepB.of_turns ht fun k hk hm => ?_
    have h1 := hcs k hm
    simp only [List.mem_cons] at hk
    rcases hk with rfl | rfl | rfl | hk
    · omega
    · omega
    · omega
    · have := hxb k hk; omega
  case ax =>
    rintro ⟨x, a'⟩ W W' cs ⟨Bx, hBx, kX, ha⟩ ht hcs _
    refine ⟨Bx, hBx, ht.heap kX (fun hm => ?_), ha⟩
    rcases hcs Bx hm with h | ⟨_, o, ho, hc⟩
    · simp at h; omega
    · rw [show W.heap[Bx]? = _ from kX] at ho; cases ho; cases hc
  case assign =>
    rintro l pre x W K hi hle hK
    rw [show encC x = #[.int .i64 x.at_, .agg #[.int .i64 x.lo, .int .i64 x.hi]] from rfl]
    have hK2 := hK _ _ ⟨W.heap.size, hle, Blk.new W 43 #[.int .i64 x.lo, .int .i64 x.hi], rfl⟩ (hOwn.alloc _ hi) ((KeepsOthers.alloc _ _).from _) (KeepB.of_turns (Turns.alloc [] _ _) (by simp))
    clear hK hOwn hxb hi
    gi_wp2
    exact hK2
  case body =>
    rintro l pre x a' W ⟨⟨v, hv, hrow, -⟩, hB⟩ ⟨Bx, hBx, kX, rfl⟩ hle hpre
    have hc := hv.cell
    have hf := hv.frozen
    have x0 := kX.cell 0
    have x1 := kX.cell 1
    simp only [List.getElem?_toArray, List.getElem?_cons_zero, List.getElem?_cons_succ] at x0 x1
    have hpl : pre.length ≤ 1000000 := by
      have h1 := hpre.length_le
      have h2 := cutsI_length xs index limit
      simp at h1; omega
    have HPL := Lib.hid hpl
    have HV := Lib.hid hv
    have HR := Lib.hid hrow
    have HB := Lib.hid hB
    have HXB := Lib.hid hxb
    have HSZ := Lib.hid hsz
    have HLE := Lib.hid hle
    clear hOwn hxb hB0 hs hs0 hv hrow hB hpl hpre b0 b1 b2 b3 hsz hle hBx
    gi_wp2_with (go_loud (gi_at_builtin; refine wpListIn_append_own _ rfl _ _ 41 rfl W0.heap.size 43 i0 (.agg #[.int .i64 0, .int .i64 0]) 2 16 Tryd.underlying41 hi hz0 hz1 hz2 rfl (by decide) v pre.length (flatC pre) rfl (HR.out.alloc _) ⟨W.heap.size, 0, none⟩ 1 1 [.int .i64 x.lo, .int .i64 x.hi] rfl rfl (cell_two_new _ _ _ _) (by simp [Value.oneCell']) (by have := HPL.out; unfold maxLen; omega) (by have := HPL.out; omega) (by have := HLE.out; simp; omega) ?_; intro v' w1 hown' hgrow _; obtain ⟨g', cap', rfl⟩ := ownsRow_succ hown'; obtain ⟨hv1, hv2, hr2, hk2, ht2, hg2⟩ := box_append HV.out (by decide) HR.out hown' hgrow; have hc1 := hv1.cell; have hf1 := hv1.frozen; clear hown' hgrow; have HV2 := Lib.hid hv2; have HR2 := Lib.hid hr2; have HK2 := Lib.hid hk2; have HT2 := Lib.hid ht2; have HG2 := Lib.hid hg2; clear hv1 hv2 hr2 hk2 ht2 hg2))
    have hsz := HSZ.out
    have hg2 := HG2.out
    refine ⟨HK2.out.from _, KeepB.of_turns HT2.out (fun k hk hm => ?_), ⟨_, HV2.out, by rw [flatC_snoc, List.length_append]; exact HR2.out, trivial⟩, HT2.out.toBelow HB.out HB.out.size (fun k hk => ?_)⟩
    · rcases List.mem_cons.1 hm with rfl | hm
      · simp only [List.mem_cons] at hk
        rcases hk with hk | hk | hk | hk
        · omega
        · omega
        · omega
        · have := HXB.out _ hk; omega
      · have h1 := hg2 k hm
        simp only [List.mem_cons] at hk
        rcases hk with hk | hk | hk | hk
        · omega
        · omega
        · omega
        · have := HXB.out _ hk; omega
    · rcases List.mem_cons.1 hk with rfl | hk
      · exact Nat.le_refl _
      · have h1 := hg2 k hk; omega
  case done =>
    rintro D W hD ⟨⟨v, hv, hrow, -⟩, hB⟩ hK
    have hc := hv.cell
    have HR := Lib.hid hrow
    have HB := Lib.hid hB
    have HK := Lib.hid hK
    clear hOwn hxb hB0 hs hs0 hv hrow hB b0 b1 b2 b3
    gi_wp2
    refine ⟨by simp, .inl ⟨_, _, rfl, run_takeDeferred HK.out, ?_⟩⟩
    refine ⟨_, results_tmp rfl _ _ _, v, rfl, ?_, ?_⟩
    · exact owns_base (ownsRow_putObj HR.out _ HK.out rfl) (by omega)
    · exact HB.out.trans ⟨rfl, rfl, rfl, by simp, fun k hk => World.putObj_heap_other (by omega)⟩
  case stop =>
    rintro D c pre W _ _ h _
    exact h.elim

end Go.Proofs.YtililoojjfcfgaaDoor
