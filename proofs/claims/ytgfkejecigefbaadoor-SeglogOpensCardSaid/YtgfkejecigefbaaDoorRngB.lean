
/- A range over an iterator that keeps its state in boxes of its own: what the caller of such a range owes. Conditions: the boxes lay when the range begins. -/
import Derived.RangeFuncWrites
import Derived.RangeFuncBox
import Derived.RangeFuncCalls
import Derived.Test.YtgfkejecigefbaaDoorLib
namespace Go.Proofs.YtgfkejecigefbaaDoor
open Go.RowKit
set_option linter.unusedVariables false

/-- Nothing that was there has turned but these blocks. -/
structure Turns (bs : List Nat) (w w' : World) : Prop where
  os : w'.os = w.os
  tape : w'.tape = w.tape
  output : w'.output = w.output
  size : w.heap.size ≤ w'.heap.size
  block : ∀ k, k < w.heap.size → k ∉ bs → w'.heap[k]? = w.heap[k]?
theorem Turns.refl (bs : List Nat) (w : World) : Turns bs w w := ⟨rfl, rfl, rfl, Nat.le_refl _, fun _ _ _ => rfl⟩
theorem Turns.trans {bs : List Nat} {a b c : World} (h : Turns bs a b) (k : Turns bs b c) : Turns bs a c :=
  ⟨k.os.trans h.os, k.tape.trans h.tape, k.output.trans h.output, Nat.le_trans h.size k.size, fun i hi hn => (k.block i (Nat.lt_of_lt_of_le hi h.size) hn).trans (h.block i hi hn)⟩
theorem Turns.mono {bs cs : List Nat} {w w' : World} (h : Turns bs w w') (hs : ∀ k, k ∈ bs → k ∈ cs) : Turns cs w w' :=
  ⟨h.os, h.tape, h.output, h.size, fun k hk hn => h.block k hk fun hb => hn (hs k hb)⟩
theorem Turns.alloc (bs : List Nat) (w : World) (o : Obj) : Turns bs w (w.alloc o) :=
  ⟨rfl, rfl, rfl, by simp, fun k hk _ => Below.heap_alloc w o k hk⟩
theorem Turns.putObj (w : World) (l : Nat) (o : Obj) : Turns [l] w (w.putObj l o) :=
  ⟨rfl, rfl, rfl, by simp, fun k _ hn => World.putObj_heap_other (by simpa using hn)⟩
theorem Turns.setCell (bs : List Nat) (w : World) {p : Addr} (hp : p.block ∈ bs) (u : Value) : Turns bs w (w.setCell p u) :=
  ⟨rfl, rfl, rfl, by simp [World.setCell], fun k _ hn => Below.heap_setCell w p u k (fun e => hn (by rw [e]; exact hp))⟩
theorem Turns.drew {bs : List Nat} {a w : World} (h : Turns bs a w) : Turns bs a w.drew := ⟨h.os, h.tape, h.output, h.size, h.block⟩
theorem Turns.of_below {w w' : World} (bs : List Nat) (h : Below w.heap.size w w') : Turns bs w w' := ⟨h.os, h.tape, h.output, h.size, fun k hk _ => h.block k hk⟩
theorem Turns.of_grown {w w' : World} {row : Option Nat} {bs : List Nat} (h : w.grownBy w' row) (hs : ∀ g, row = some g → g ∈ bs) : Turns bs w w' :=
  ⟨h.os, h.tape, h.output, h.size, fun k hk hn => h.block k hk fun e => hn (hs k e.symm)⟩
theorem Turns.heap {bs : List Nat} {w w' : World} (h : Turns bs w w') {k : Nat} {o : Obj} (hk : w.heap[k]? = some o) (hn : k ∉ bs) : w'.heap[k]? = some o :=
  (h.block k (Array.getElem?_eq_some_iff.1 hk).1 hn).trans hk
theorem Turns.toBelow {bs : List Nat} {B : Nat} {W w w' : World} (hb : Below B W w) (h : Turns bs w w') (hB : B ≤ w.heap.size) (hs : ∀ k, k ∈ bs → B ≤ k) : Below B W w' :=
  hb.trans ⟨h.os, h.tape, h.output, h.size, fun k hk => h.block k (Nat.lt_of_lt_of_le hk hB) fun hn => by have := hs k hn; omega⟩

/-- Boxes of numbers stay boxes of numbers. -/
def NumBoxes (bs : List Nat) (W W' : World) : Prop := ∀ k ∈ bs, ∀ (t : TypeId) (n : Int), Boxed W k t (.int .i64 n) → ∃ m : Int, Boxed W' k t (.int .i64 m)
theorem NumBoxes.of_turns {bs cs : List Nat} {W W' : World} (h : Turns cs W W') (hn : ∀ k ∈ bs, k ∉ cs) : NumBoxes bs W W' := fun k hk t n hb => ⟨n, (h.block k hb.lt (hn k hk)).trans hb⟩
theorem NumBoxes.same {bs : List Nat} {W W' : World} (h : ∀ k : Nat, W'.heap[k]? = W.heap[k]?) : NumBoxes bs W W' := fun k _ t n hb => ⟨n, (h k).trans hb⟩
/-- What is said of a round does not mind that the boxes turn. -/
def Stands {β : Type} (bs : List Nat) (J : β → World → Prop) : Prop := ∀ s W W', J s W → Turns bs W W' → NumBoxes bs W W' → J s W'

/-- AN ITERATOR WITH BOXES: between two rounds it may turn the blocks bs; a round keeps what Kp names. -/
def SeqBoxes {α : Type} (F : Fence) (n : Nat) (P : Program) (g : Nat) (lb : Array Value) (encs : α → Array Value) (bs : List Nat) (Kp : World → World → Prop) (all : List α) (w : World) : Prop :=
  ∀ (l : Nat) (J Jx : List α → World → Prop) (W : World), Kp w W → Stands bs J → Stands bs Jx →
    (∀ pre x W1, J pre W1 → pre ++ [x] <+: all → YieldAt F (n - 1) P l (encs x) W1 fun e W' =>
      (e = .returned (.bool true) ∧ J (pre ++ [x]) W' ∧ Kp W1 W') ∨ (e = .returned (.bool false) ∧ Jx (pre ++ [x]) W')) →
    J [] W →
    CallsIn F n P g (#[.func (.yield l) #[] #[]] ++ lb) W fun e W' => (∃ v, e = .returned v) ∧ (J all W' ∨ (∃ pre, pre <+: all ∧ Jx pre W'))

/-- The caller's word: it does not mind that the boxes turn, nor what is no cells at or beyond B. -/
def OwnBx {β : Type} (B : Nat) (bs : List Nat) (I : β → World → Prop) : Prop :=
  ∀ s W W' cs, I s W → Turns cs W W' → (∀ k, k ∈ cs → k ∈ bs ∨ (B ≤ k ∧ ∃ o : Obj, W.heap[k]? = some o ∧ o.isCells = false)) → NumBoxes bs W W' → I s W'
theorem OwnBx.alloc {β : Type} {B : Nat} {bs : List Nat} {I : β → World → Prop} (h : OwnBx B bs I) {s : β} {W : World} (o : Obj) (hs : I s W) : I s (W.alloc o) :=
  h s W _ [] hs (Turns.alloc _ _ _) (fun k hk => by cases hk) (NumBoxes.of_turns (Turns.alloc [] _ _) (fun _ _ hm => by cases hm))
theorem OwnBx.putObj {β : Type} {B : Nat} {bs : List Nat} {I : β → World → Prop} (h : OwnBx B bs I) {s : β} {W : World} {l : Nat} {o : Obj} (o' : Obj) (hs : I s W) (hB : B ≤ l) (hl : W.heap[l]? = some o) (ho : o.isCells = false) : I s (W.putObj l o') :=
  h s W _ [l] hs (Turns.putObj _ _ _) (fun k hk => by cases List.mem_singleton.1 hk; exact .inr ⟨hB, o, hl, ho⟩) (fun k _ t n hb => ⟨n, hb.kept (grownBy_putObj' W l o') (fun e => by injection e with e; subst e; rw [show W.heap[k]? = _ from hb] at hl; cases hl; cases ho)⟩)
theorem OwnBx.stands {β : Type} {B : Nat} {bs : List Nat} {I : β → World → Prop} (h : OwnBx B bs I) : Stands bs I :=
  fun s W W' hs ht hb => h s W W' bs hs ht (fun k hk => .inl hk) hb

variable {F : Fence} {n : Nat} {P : Program}

/-- **The range over such an iterator.** -/
theorem wpIn_range_boxes {α : Type} {g : Operand} {ps : Array Tmp} {assign body : Code} {Q : Exit → Act → World → Prop} {a : Act} {w : World}
    (hro : F.round = none) (h1 : 1 ≤ n) {gf : Nat} {lb : Array Value} (hg : a.eval g = .func (.func gf) #[] lb) (hFg : F.fn gf) (eg : ∀ args w, (callFunc gf args).run P w = .ok (.enter gf args) w)
    {encs : α → Array Value} {bs : List Nat} {Kp : World → World → Prop} {all : List α} (hseq : SeqBoxes F (n - 1) P gf lb encs bs Kp all w) (hbs : ∀ k, k ∈ bs → k < w.heap.size)
    (hKt : ∀ {A B C : World}, Kp A B → Kp B C → Kp A C) (hKn : ∀ (W W' : World) (cs : List Nat), Turns cs W W' → w.heap.size ≤ W.heap.size → (∀ k, k ∈ cs → w.heap.size ≤ k) → Kp W W') (hps : ∀ x, (encs x).size = ps.size)
    (I : List α → World → Prop) (Ix : Code → List α → World → Prop) (hI : OwnBx w.heap.size bs I) (hIx : ∀ c, OwnBx w.heap.size bs (Ix c)) (h0 : I [] w)
    (Ax : α → Act → World → Prop) (hAx : OwnBx w.heap.size bs (fun (p : α × Act) W => Ax p.1 p.2 W))
    (hassign : ∀ (l : Nat) (pre : List α) (x : α) (W : World) (K : Act → World → Prop), I pre W → w.heap.size ≤ W.heap.size →
      (∀ a' W', Ax x a' W' → I pre W' → KeepsFrom w.heap.size W W' → Kp W W' → K a' W') →
      assign.wpIn (F.inRound l) (n - 1 - 1) P (Exit.then K (fun _ _ _ => False)) { tmps := (ps.zip (encs x)).foldl (fun t (p, v) => t.setIfInBounds p v) a.tmps, defers := [] } W)
    (hbody : ∀ (l : Nat) (pre : List α) (x : α) (a' : Act) (W : World), I pre W → Ax x a' W → w.heap.size ≤ W.heap.size → pre ++ [x] <+: all → body.wpIn (F.inRound l) (n - 1 - 1) P (ownPostG w.heap.size Kp I Ix (pre ++ [x]) W) a' W)
    (hdone : ∀ (D : Nat) (W : World), w.heap.size ≤ D → I all W → W.heap[D]? = some (.deferred (some [])) → Q .normal { a with defers := { target := .collected D, args := #[] } :: a.defers } W)
    (hstop : ∀ (D : Nat) (c : Code) (pre : List α) (W : World), w.heap.size ≤ D → pre <+: all → Ix c pre W → W.heap[D]? = some (.deferred (some [])) → c.wpIn F n P Q { a with defers := { target := .collected D, args := #[] } :: a.defers } W) :
    (Code.rangeFunc g ps assign body).wpIn F n P Q a w := by
  refine wpIn_rangeFunc fun fn hfn => ?_
  rw [hro]
  obtain ⟨rc, hrc⟩ : ∃ rc : LoopState → Option Code → Loop, rc = fun st pe => { state := st, pending := pe, fn, tmps := a.tmps, params := ps, assign, body, defers := w.heap.size } := ⟨_, rfl⟩
  obtain ⟨V, hV⟩ : ∃ V, (w.alloc (.deferred (some []))).alloc (.loop (rc .ready none)) = V := ⟨_, rfl⟩
  have tV : Turns [] w V := by rw [← hV]; exact (Turns.alloc _ _ _).trans (Turns.alloc _ _ _)
  have hL : V.heap[w.heap.size + 1]? = some (.loop (rc .ready none)) := by
    rw [← hV]; have := World.alloc_heap_new (w.alloc (.deferred (some []))) (.loop (rc .ready none)); rwa [World.size_alloc] at this
  have hD : V.heap[w.heap.size]? = some (.deferred (some [])) := by
    rw [← hV]; exact (Below.heap_alloc _ _ _ (by simp)).trans (World.alloc_heap_new w _)
  have hIV : I [] V := hI [] w V [] h0 tV (fun k hk => by cases hk) (NumBoxes.of_turns tV (fun _ _ hm => by cases hm))
  -- what stands beside the caller's word: the loop's record, and the block of the rounds' deferred calls
  obtain ⟨Bk, hBk⟩ : ∃ Bk : LoopState → Option Code → World → Prop, Bk = fun st pe W => W.heap[w.heap.size + 1]? = some (.loop (rc st pe)) ∧ W.heap[w.heap.size]? = some (.deferred (some [])) := ⟨_, rfl⟩
  have sBk : ∀ st pe W W', Bk st pe W → Turns bs W W' → Bk st pe W' := fun st pe W W' h t => by
    rw [hBk] at h ⊢
    exact ⟨t.heap h.1 (fun hn => by have := hbs _ hn; omega), t.heap h.2 (fun hn => by have := hbs _ hn; omega)⟩
  have put : ∀ st pe st' pe' W, Bk st pe W → Bk st' pe' (W.putObj (w.heap.size + 1) (.loop (rc st' pe'))) := fun st pe st' pe' W h => by
    rw [hBk] at h ⊢
    exact ⟨World.putObj_heap_same (Array.getElem?_eq_some_iff.1 h.1).1, (World.putObj_heap_other (by omega)).trans h.2⟩
  have far : ∀ st pe W W', Bk st pe W → KeepsFrom w.heap.size W W' → Bk st pe W' := fun st pe W W' h k => by
    rw [hBk] at h ⊢
    exact ⟨k.same _ _ (by omega) h.1 rfl, k.same _ _ (Nat.le_refl _) h.2 rfl⟩
  have at1 : ∀ st pe W, Bk st pe W → W.heap[w.heap.size + 1]? = some (.loop (rc st pe)) := fun st pe W h => by rw [hBk] at h; exact h.1
  have at2 : ∀ st pe W, Bk st pe W → W.heap[w.heap.size]? = some (.deferred (some [])) := fun st pe W h => by rw [hBk] at h; exact h.2
  have szW : ∀ st pe W, Bk st pe W → w.heap.size ≤ W.heap.size := fun st pe W h => by
    have := (Array.getElem?_eq_some_iff.1 (at2 st pe W h)).1; omega
  have kp1 : ∀ st pe W o, Bk st pe W → Kp W (W.putObj (w.heap.size + 1) o) := fun st pe W o h =>
    hKn _ _ _ (Turns.putObj _ _ _) (szW st pe W h) (fun k hk => by cases List.mem_singleton.1 hk; omega)
  refine ⟨w.heap.size + 1, [{ target := .collected w.heap.size, args := #[] }], V, { target := .fn (.func gf) lb, args := #[.func (.yield (w.heap.size + 1)) #[] #[]] }, V, gf,
    #[.func (.yield (w.heap.size + 1)) #[] #[]] ++ lb, V, ?_, ?_, ?_, ?_, fun _ => h1, ?_⟩
  · rw [← hV, hrc]; exact run_enterLoop_outer _ _ _ _ _
  · simp only [resolve, hg]
    simp [go_sem]
  · intro f' hf'; simp [Target.leads] at hf'; subst hf'; exact hFg
  · simp [invoke, go_sem, eg]
  · refine (hseq (w.heap.size + 1) (fun pre W => I pre W ∧ Bk .ready none W) (fun pre W => ∃ c, Ix c pre W ∧ Bk .done (some c) W) V
      (hKn _ _ _ tV (Nat.le_refl _) (fun k hk => by cases hk))
      (fun s W W' h t hb => ⟨hI.stands s W W' h.1 t hb, sBk _ _ W W' h.2 t⟩)
      (fun s W W' h t hb => by obtain ⟨c, hc, hk⟩ := h; exact ⟨c, (hIx c).stands s W W' hc t hb, sBk _ _ W W' hk t⟩)
      ?_ ⟨hIV, by rw [hBk]; exact ⟨hL, hD⟩⟩).mono ?_
    · rintro pre x W ⟨hi, hk⟩ hpre
      have hl := at1 _ _ W hk
      have hy := run_yield (P := P) (args := encs x) hl (by rw [hrc]; exact hps x)
      rw [hrc] at hy
      refine ⟨fn, _, assign, body, hy, roundIn_of_wpIn hfn (hassign _ pre x W _ hi (szW _ _ _ hk) fun a1 W1 hax hi1 hkf hkp1 => ?_)⟩
      have hk1 := far _ _ _ _ hk hkf
      have hl1 := at1 _ _ W1 hk1
      refine ⟨_, run_beginRound hl1 (by rw [hrc]), ?_⟩
      have hb : ({ rc .ready none with state := .busy } : Loop) = rc .busy none := by rw [hrc]
      rw [hb]
      have hk2 := put _ _ .busy none W1 hk1
      refine wpIn_mono (hbody _ pre x a1 _ (hI.putObj _ hi1 (by omega) hl1 rfl) (hAx.putObj (s := (x, a1)) _ hax (by omega) hl1 rfl) (szW _ _ _ hk2) hpre) ?_
      have fin : ∀ (jump : Option Code) (W3 : World), KeepsFrom w.heap.size (W1.putObj (w.heap.size + 1) (.loop (rc .busy none))) W3 →
          (Instr.endRound (w.heap.size + 1) jump).run P W3 = .ok (.bool jump.isNone) (W3.putObj (w.heap.size + 1) (.loop (rc (if jump.isNone then .ready else .done) jump))) ∧ Bk .busy none W3 := fun jump W3 k3 => by
        have hk3 := far _ _ _ _ hk2 k3
        have := run_endRound (P := P) jump (at1 _ _ _ hk3)
        rw [hrc] at this
        rw [hrc]
        exact ⟨this, hk3⟩
      rintro e a3 W3 hp
      cases e with
      | normal =>
        obtain ⟨k3, kp3, hi3⟩ := hp
        obtain ⟨hr, hk3⟩ := fin none W3 k3
        exact ⟨_, _, hr, .inl ⟨rfl, ⟨hI.putObj _ hi3 (by omega) (at1 _ _ _ hk3) rfl, put _ _ _ _ _ hk3⟩, hKt (hKt (hKt hkp1 (kp1 _ _ _ _ hk1)) kp3) (kp1 _ _ _ _ hk3)⟩⟩
      | ret =>
        obtain ⟨k3, hi3⟩ := hp
        obtain ⟨hr, hk3⟩ := fin (some .ret) W3 k3
        exact ⟨_, _, hr, .inr ⟨rfl, .ret, (hIx _).putObj _ hi3 (by omega) (at1 _ _ _ hk3) rfl, put _ _ _ _ _ hk3⟩⟩
      | exit id =>
        obtain ⟨k3, hi3⟩ := hp
        obtain ⟨hr, hk3⟩ := fin (some (.exit id)) W3 k3
        exact ⟨_, _, hr, .inr ⟨rfl, .exit id, (hIx _).putObj _ hi3 (by omega) (at1 _ _ _ hk3) rfl, put _ _ _ _ _ hk3⟩⟩
      | goto t =>
        obtain ⟨k3, hi3⟩ := hp
        obtain ⟨hr, hk3⟩ := fin (some (.goto t)) W3 k3
        exact ⟨_, _, hr, .inr ⟨rfl, .goto t, (hIx _).putObj _ hi3 (by omega) (at1 _ _ _ hk3) rfl, put _ _ _ _ _ hk3⟩⟩
      | panic ch => exact hp.elim
      | outgrown => exact hp.elim
    · rintro e W2 ⟨⟨v, rfl⟩, (⟨hi, hk⟩ | ⟨pre, hSp, c, hi, hk⟩)⟩
      · have hl := at1 _ _ _ hk
        exact ⟨none, _, by have := run_endLoop (P := P) hl (by rw [hrc]; simp); rw [hrc] at this; exact this, hdone _ _ (Nat.le_refl _) (hI.putObj _ hi (by omega) hl rfl) ((World.putObj_heap_other (by omega)).trans (at2 _ _ _ hk))⟩
      · have hl := at1 _ _ _ hk
        exact ⟨some c, _, by have := run_endLoop (P := P) hl (by rw [hrc]; simp); rw [hrc] at this; exact this, hstop _ c pre _ (Nat.le_refl _) hSp ((hIx c).putObj _ hi (by omega) hl rfl) ((World.putObj_heap_other (by omega)).trans (at2 _ _ _ hk))⟩

end Go.Proofs.YtgfkejecigefbaaDoor
