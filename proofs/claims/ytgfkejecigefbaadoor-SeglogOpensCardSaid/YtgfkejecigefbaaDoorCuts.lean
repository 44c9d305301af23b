
/- feed.Cuts: the cuts of a page, in a row of the call's own. Conditions: the counts read as a slice of numbers, a million of them at most. -/
import Derived.Test.YtgfkejecigefbaaDoorCutI
import Derived.Test.YtgfkejecigefbaaDoorBlk
namespace Go.Proofs.YtgfkejecigefbaaDoor
open Go.RowKit Go.Shelf
set_option linter.unusedVariables false
attribute [local go_sem] Oper.semAt_some

def flatC (l : List CutP) : List Value := l.flatMap fun c => [.int .i64 c.lo, .int .i64 c.hi]
theorem flatC_len (l : List CutP) : (flatC l).length = l.length * 2 := by
  induction l with
  | nil => rfl
  | cons c l ih => simp only [flatC, List.flatMap_cons, List.length_append, List.length_cons, List.length_nil] at *; omega
theorem flatC_snoc (l : List CutP) (c : CutP) : flatC (l ++ [c]) = flatC l ++ [.int .i64 c.lo, .int .i64 c.hi] := by simp [flatC]
theorem flatC_get : ∀ (l : List CutP) (k : Nat) (c : CutP), l[k]? = some c → (flatC l)[k * 2]? = some (.int .i64 c.lo) ∧ (flatC l)[k * 2 + 1]? = some (.int .i64 c.hi)
  | [], k, c, h => by simp at h
  | d :: l, 0, c, h => by simp at h; subst h; simp [flatC]
  | d :: l, k + 1, c, h => by
    have := flatC_get l k c (by simpa using h)
    have e : flatC (d :: l) = .int .i64 d.lo :: .int .i64 d.hi :: flatC l := by simp [flatC]
    rw [e, show (k + 1) * 2 = (k * 2) + 1 + 1 by omega]
    simpa using this

theorem infoC : (Tryd.prog.info? 68).map (fun i => (i.zero, i.size, i.bytes)) = some (some (.agg #[.int .i64 0, .int .i64 0]), 2, 16) := by kernel_rfl

/-- A box that no turning touches. -/
theorem boxed_turns {cs : List Nat} {W W' : World} {B : Nat} {t : TypeId} {v : Value} (h : Boxed W B t v) (ht : Turns cs W W') (hn : B ∉ cs) : Boxed W' B t v := (ht.block B h.lt hn).trans h
theorem owns_turns {cs : List Nat} {w w' : World} (h : Turns cs w w') {base : Nat} {e : TypeId} {size : Nat} {v : Value} {n : Nat} {xs : List Value} (r : w.ownsRow base e size v n xs) (hn : ∀ g, v.ownBlock = some g → g ∉ cs) : w'.ownsRow base e size v n xs := by
  obtain ⟨h1, h2⟩ := r
  refine ⟨h1, ?_⟩
  rcases h2 with h2 | ⟨g, cap, cur, hv, hg, hh, r⟩
  · exact Or.inl h2
  · exact Or.inr ⟨g, cap, cur, hv, hg, h.heap hh (hn g (by rw [hv]; rfl)), r⟩
theorem owns_cells {w : World} {base : Nat} {e : TypeId} {size : Nat} {v : Value} {n : Nat} {xs : List Value} (r : w.ownsRow base e size v n xs) {g : Nat} (hg : v.ownBlock = some g) : base ≤ g ∧ ∃ cur, w.heap[g]? = some (.cells cur e (0, 0)) := by
  rcases r.2 with ⟨rfl, _⟩ | ⟨g', cap, cur, rfl, hb, hh, _⟩
  · simp [Value.ownBlock] at hg
  · obtain rfl : g' = g := by simpa [Value.ownBlock] using hg
    exact ⟨hb, cur, hh⟩

theorem owns_base {w : World} {b0 b1 : Nat} {e : TypeId} {size : Nat} {v : Value} {n : Nat} {xs : List Value} (h : w.ownsRow b1 e size v n xs) (hb : b0 ≤ b1) : w.ownsRow b0 e size v n xs := by
  obtain ⟨h1, h2⟩ := h
  refine ⟨h1, h2.imp id ?_⟩
  rintro ⟨g, cap, cur, hv, hg, hr⟩
  exact ⟨g, cap, cur, hv, by omega, hr⟩
/-- Behind 'out = append(out, ..)', where out lies in a box. -/
theorem box_append {W w1 : World} {base B : Nat} {t e : TypeId} {size : Nat} {v v' : Value} {k m : Nat} {xs ys : List Value} {tmp : Obj} (hv : Boxed W B t v) (hte : t ≠ e) (hrow : W.ownsRow base e size v k xs)
    (hown : w1.ownsRow base e size v' m ys) (hg : (W.alloc tmp).grownBy w1 v.ownBlock) :
    Boxed w1 B t v ∧ Boxed (w1.setCell ⟨B, 0, none⟩ v') B t v' ∧ (w1.setCell ⟨B, 0, none⟩ v').ownsRow base e size v' m ys ∧ KeepsOthers W (w1.setCell ⟨B, 0, none⟩ v') ∧ Turns (B :: v.ownBlock.toList) W (w1.setCell ⟨B, 0, none⟩ v') ∧ (∀ g ∈ v.ownBlock.toList, base ≤ g) := by
  have hv1 : Boxed w1 B t v := (hv.alloc tmp).kept hg (hv.not_row hte hrow)
  refine ⟨hv1, hv1.set v', hown.kept (grownBy_setCell' w1 B v') (.inr (hv1.not_row hte hown).symm), ?_, ?_, fun g hm => (owns_cells hrow (by simpa using hm)).1⟩
  · refine ((KeepsOthers.alloc W tmp).trans (KeepsOthers.of_grownBy hg fun j o ej hj => ?_)).trans (KeepsOthers.setCell _ _ _)
    obtain ⟨_, cur, hh⟩ := owns_cells (hrow.alloc tmp) ej
    rw [hh] at hj; cases hj; rfl
  · exact ((Turns.alloc _ _ _).trans (Turns.of_grown hg fun g e => by simp [e])).trans (Turns.setCell _ _ (by simp) _)

/-- A box and the row that its slice owns do not mind what an iterator and the loop turn. -/
theorem boxRow_own {β : Type} (B : Nat) (bs : List Nat) (n₀ : Nat) (w : World) (X base : Nat) (t e : TypeId) (size : Nat) (kf : β → Nat) (f : β → List Value) (G : β → Value → Prop) (hX : X ∉ bs) (hbase : ∀ k ∈ bs, k < base) (hn : n₀ ≤ w.heap.size) (hb : ∀ k ∈ bs, n₀ ≤ k) (hB : n₀ ≤ B) :
    OwnBx B bs (fun (s : β) W => (∃ v, Boxed W X t v ∧ W.ownsRow base e size v (kf s) (f s) ∧ G s v) ∧ Below n₀ w W) := by
  rintro s W W' cs ⟨⟨v, hv, hr, hG⟩, hbl⟩ ht hcs _
  refine ⟨⟨v, boxed_turns hv ht (fun hm => ?_), owns_turns ht hr (fun g hg hm => ?_), hG⟩, ht.toBelow hbl (Nat.le_trans hn hbl.size) (fun k hk => ?_)⟩
  · rcases hcs X hm with h | ⟨_, o, ho, hc⟩
    · exact hX h
    · rw [show W.heap[X]? = _ from hv] at ho; cases ho; cases hc
  · obtain ⟨h1, cur, h2⟩ := owns_cells hr hg
    rcases hcs g hm with h | ⟨_, o, ho, hc⟩
    · have := hbase g h; omega
    · rw [h2] at ho; cases ho; cases hc
  · rcases hcs k hk with h | ⟨h, _⟩
    · exact hb k h
    · omega

set_option maxRecDepth 100000 in
set_option maxHeartbeats 2000000 in
theorem Cuts_any (a : Option Addr) (cp : Nat) (xs : List Int) (index limit : Int) (hx64 : ∀ x ∈ xs, -9223372036854775808 ≤ x ∧ x ≤ 9223372036854775807) (hi64 : -9223372036854775808 ≤ index ∧ index ≤ 9223372036854775807) (hl64 : -9223372036854775808 ≤ limit ∧ limit ≤ 9223372036854775807)
    (hlen : xs.length ≤ 1000000) (w : World) (hs : Sl w (.slice a xs.length cp) (xs.map (Value.int .i64))) :
    Calls Tryd.prog 29 #[.slice a xs.length cp, .int .i64 index, .int .i64 limit] w fun e w' => ∃ v, e = .returned v ∧ w'.ownsRow w.heap.size 68 2 v (cutsI xs index limit).length (flatC (cutsI xs index limit)) ∧ Below w.heap.size w w' := by
  refine (callsIn_wide (n := 4)).1 ?_
  obtain ⟨i0, hi, hz0, hz1, hz2⟩ := info_parts infoC
  refine callsIn_of_wp_marks Tryd.func29 rfl trivial ?_ rfl
  simp only [Tryd.ntmps29, List.size_toArray, List.length_cons, List.length_nil, Nat.reduceAdd, Nat.reduceSub, Array.replicate_succ, Array.replicate_zero, List.push_toArray, List.append_toArray, List.nil_append, List.cons_append]
  have HS := Lib.hid hs
  clear hs
  gi_wp2_with (refine ⟨trivial, ?_⟩; gi_at_call 30; refine (cuts_in _ _ _ _ _ _ _).mono ?_; rintro e w' ⟨rfl, rfl⟩)
  have hs := HS.out
  clear HS
  obtain ⟨W0, hW0⟩ : ∃ W0, ((((w.alloc (.cells #[.slice none 0 0] 66)).alloc (.cells #[.slice a xs.length cp] 70)).alloc (.cells #[.int .i64 index] 3)).alloc (.cells #[.int .i64 limit] 3)) = W0 := ⟨_, rfl⟩
  have b0 : Boxed W0 w.heap.size 66 (.slice none 0 0) := by rw [← hW0]; exact (((Boxed.new w _ _).alloc _).alloc _).alloc _
  have b1 : Boxed W0 (w.heap.size + 1) 70 (.slice a xs.length cp) := by
    rw [← hW0]
    have := ((Boxed.new (w.alloc (.cells #[.slice none 0 0] 66)) 70 (.slice a xs.length cp)).alloc (.cells #[.int .i64 index] 3)).alloc (.cells #[.int .i64 limit] 3)
    simpa using this
  have b2 : Boxed W0 (w.heap.size + 1 + 1) 3 (.int .i64 index) := by
    rw [← hW0]
    have := (Boxed.new ((w.alloc (.cells #[.slice none 0 0] 66)).alloc (.cells #[.slice a xs.length cp] 70)) 3 (.int .i64 index)).alloc (.cells #[.int .i64 limit] 3)
    simpa using this
  have b3 : Boxed W0 (w.heap.size + 1 + 1 + 1) 3 (.int .i64 limit) := by
    rw [← hW0]
    have := Boxed.new (((w.alloc (.cells #[.slice none 0 0] 66)).alloc (.cells #[.slice a xs.length cp] 70)).alloc (.cells #[.int .i64 index] 3)) 3 (.int .i64 limit)
    simpa using this
  have hB0 : Below w.heap.size w W0 := by rw [← hW0]; exact ((((Below.refl _ w).alloc (Nat.le_refl _) _).alloc (by simp) _).alloc (by simp; omega) _).alloc (by simp; omega) _
  have hsz : W0.heap.size = w.heap.size + 4 := by rw [← hW0]; simp
  have hs0 := hs.below hB0 (Nat.le_refl _)
  have hxb : ∀ k ∈ slBlk (.slice a xs.length cp), k < w.heap.size := by
    intro k hk
    by_cases h0 : xs.length = 0
    · cases a <;> simp [slBlk, h0] at hk
    · obtain ⟨b, off, rfl, hlt, _⟩ := hs.ints (k := 0) (by omega)
      simp [slBlk, h0] at hk
      omega
  have hOwn := boxRow_own (β := List CutP) W0.heap.size [w.heap.size + 1 + 1, w.heap.size + 1 + 1 + 1] w.heap.size w w.heap.size W0.heap.size 66 68 2 List.length flatC (fun _ _ => True) (by simp; omega) (fun k hk => by simp at hk; omega) (Nat.le_refl _) (fun k hk => by simp at hk; omega) (by omega)
  rw [hW0]
  clear hW0
  refine wpIn_range_boxes rfl (by omega) (gf := 52) (lb := #[.pointer (some ⟨w.heap.size + 1, 0, none⟩), .pointer (some ⟨w.heap.size + 1 + 1, 0, none⟩), .pointer (some ⟨w.heap.size + 1 + 1 + 1, 0, none⟩)]) rfl trivial (enters_of Tryd.func52 (by kernel_rfl) rfl)
    (cutsRun 3 (by omega) a cp xs index limit (w.heap.size + 1) (w.heap.size + 1 + 1) (w.heap.size + 1 + 1 + 1) (by omega) hx64 hi64 hl64 (fun k hk => by have := hxb k hk; omega) W0 b1 b2 b3 hs0)
    (fun k hk => by simp at hk; omega) (fun h k => h.trans k) ?kn (fun _ => rfl)
    (fun pre W => (∃ v, Boxed W w.heap.size 66 v ∧ W.ownsRow W0.heap.size 68 2 v pre.length (flatC pre) ∧ True) ∧ Below w.heap.size w W)
    (fun _ _ _ => False)
    hOwn
    (fun _ _ _ _ _ h _ _ _ => h)
    ⟨⟨_, b0, World.ownsRow_nil _ _ _ _, trivial⟩, hB0⟩
    (fun x a' W => ∃ Bx, W0.heap.size ≤ Bx ∧ Blk W Bx 68 #[.int .i64 x.lo, .int .i64 x.hi] ∧ a' = { tmps := #[.slice a xs.length cp, .int .i64 index, .int .i64 limit, undef, undef, undef, .slice none 0 0, .pointer (some ⟨w.heap.size, 0, none⟩), undef, .pointer (some ⟨Bx, 0, none⟩), .slice a xs.length cp, .int .i64 index, .int .i64 limit, .func (.func 52) #[] #[.pointer (some ⟨w.heap.size + 1, 0, none⟩), .pointer (some ⟨w.heap.size + 1 + 1, 0, none⟩), .pointer (some ⟨w.heap.size + 1 + 1 + 1, 0, none⟩)], .int .i64 x.at_, .agg #[.int .i64 x.lo, .int .i64 x.hi], undef, undef, undef, undef, undef], defers := [] })
    ?ax ?assign ?body ?done ?stop
  case kn =>
    intro W W' cs ht hle hcs
    refine KeepB.of_turns ht fun k hk hm => ?_
    have h1 := hcs k hm
    simp only [List.mem_cons] at hk
    rcases hk with rfl | rfl | rfl | hk
    · omega
    · omega
    · omega
    · have := hxb k hk; omega
  case ax =>
    rintro ⟨x, a'⟩ W W' cs ⟨Bx, hBx, kX, ha⟩ ht hcs _
    refine ⟨Bx, hBx, ht.heap kX (fun hm => ?_), ha⟩
    rcases hcs Bx hm with h | ⟨_, o, ho, hc⟩
    · simp at h; omega
    · rw [show W.heap[Bx]? = _ from kX] at ho; cases ho; cases hc
  case assign =>
    rintro l pre x W K hi hle hK
    rw [show encC x = #[.int .i64 x.at_, .agg #[.int .i64 x.lo, .int .i64 x.hi]] from rfl]
    have hK2 := hK _ _ ⟨W.heap.size, hle, Blk.new W 68 #[.int .i64 x.lo, .int .i64 x.hi], rfl⟩ (hOwn.alloc _ hi) ((KeepsOthers.alloc _ _).from _) (KeepB.of_turns (Turns.alloc [] _ _) (by simp))
    clear hK hOwn hxb hi
    gi_wp2
    exact hK2
  case body =>
    rintro l pre x a' W ⟨⟨v, hv, hrow, -⟩, hB⟩ ⟨Bx, hBx, kX, rfl⟩ hle hpre
    have hc := hv.cell
    have hf := hv.frozen
    have x0 := kX.cell 0
    have x1 := kX.cell 1
    simp only [List.getElem?_toArray, List.getElem?_cons_zero, List.getElem?_cons_succ] at x0 x1
    have hpl : pre.length ≤ 1000000 := by
      have h1 := hpre.length_le
      have h2 := cutsI_length xs index limit
      simp at h1; omega
    have HPL := Lib.hid hpl
    have HV := Lib.hid hv
    have HR := Lib.hid hrow
    have HB := Lib.hid hB
    have HXB := Lib.hid hxb
    have HSZ := Lib.hid hsz
    have HLE := Lib.hid hle
    clear hOwn hxb hB0 hs hs0 hv hrow hB hpl hpre b0 b1 b2 b3 hsz hle hBx
    gi_wp2_with (go_loud (gi_at_builtin; refine wpListIn_append_own _ rfl _ _ 66 rfl W0.heap.size 68 i0 (.agg #[.int .i64 0, .int .i64 0]) 2 16 Tryd.underlying66 hi hz0 hz1 hz2 rfl (by decide) v pre.length (flatC pre) rfl (HR.out.alloc _) ⟨W.heap.size, 0, none⟩ 1 1 [.int .i64 x.lo, .int .i64 x.hi] rfl rfl (cell_two_new _ _ _ _) (by simp [Value.oneCell']) (by have := HPL.out; unfold maxLen; omega) (by have := HPL.out; omega) (by have := HLE.out; simp; omega) ?_; intro v' w1 hown' hgrow _; obtain ⟨g', cap', rfl⟩ := ownsRow_succ hown'; obtain ⟨hv1, hv2, hr2, hk2, ht2, hg2⟩ := box_append HV.out (by decide) HR.out hown' hgrow; have hc1 := hv1.cell; have hf1 := hv1.frozen; clear hown' hgrow; have HV2 := Lib.hid hv2; have HR2 := Lib.hid hr2; have HK2 := Lib.hid hk2; have HT2 := Lib.hid ht2; have HG2 := Lib.hid hg2; clear hv1 hv2 hr2 hk2 ht2 hg2))
    have hsz := HSZ.out
    have hg2 := HG2.out
    refine ⟨HK2.out.from _, KeepB.of_turns HT2.out (fun k hk hm => ?_), ⟨_, HV2.out, by rw [flatC_snoc, List.length_append]; exact HR2.out, trivial⟩, HT2.out.toBelow HB.out HB.out.size (fun k hk => ?_)⟩
    · rcases List.mem_cons.1 hm with rfl | hm
      · simp only [List.mem_cons] at hk
        rcases hk with hk | hk | hk | hk
        · omega
        · omega
        · omega
        · have := HXB.out _ hk; omega
      · have h1 := hg2 k hm
        simp only [List.mem_cons] at hk
        rcases hk with hk | hk | hk | hk
        · omega
        · omega
        · omega
        · have := HXB.out _ hk; omega
    · rcases List.mem_cons.1 hk with rfl | hk
      · exact Nat.le_refl _
      · have h1 := hg2 k hk; omega
  case done =>
    rintro D W hD ⟨⟨v, hv, hrow, -⟩, hB⟩ hK
    have hc := hv.cell
    have HR := Lib.hid hrow
    have HB := Lib.hid hB
    have HK := Lib.hid hK
    clear hOwn hxb hB0 hs hs0 hv hrow hB b0 b1 b2 b3
    gi_wp2
    refine ⟨by simp, .inl ⟨_, _, rfl, run_takeDeferred HK.out, ?_⟩⟩
    refine ⟨_, results_tmp rfl _ _ _, v, rfl, ?_, ?_⟩
    · exact owns_base (ownsRow_putObj HR.out _ HK.out rfl) (by omega)
    · exact HB.out.trans ⟨rfl, rfl, rfl, by simp, fun k hk => World.putObj_heap_other (by omega)⟩
  case stop =>
    rintro D c pre W _ _ h _
    exact h.elim

end Go.Proofs.YtgfkejecigefbaaDoor
