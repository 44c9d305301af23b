
/- The iterator of a page's cuts: its contract. Conditions: the counts read as a slice of numbers. -/
import Derived.Test.YtgfkejecigefbaaDoorRngB
import Derived.Test.YtgfkejecigefbaaDoorCutP
import Derived.Test.YtgfkejecigefbaaDoorRows
import Derived.RangeFuncNested
import Derived.RangeFuncBound
import Derived.RangeFuncLeaves
import Derived.Shelf.Abstract
import Derived.Shelf.RegionOpen
import Derived.OwnWalkIn
import Derived.TacticsInMore
import Derived.LoopNIn
import Derived.LoopIn
import Derived.Maps.AppendAt
import Derived.Sort.QuietIn
namespace Go.Proofs.YtgfkejecigefbaaDoor
open Go.RowKit Go.Shelf
set_option linter.unusedVariables false
attribute [local go_sem] Oper.semAt_some

/-- These blocks lie as they lay. -/
def KeepB (ks : List Nat) (W W' : World) : Prop := W.heap.size ≤ W'.heap.size ∧ ∀ k ∈ ks, k < W.heap.size → W'.heap[k]? = W.heap[k]?
theorem KeepB.trans {ks : List Nat} {A B C : World} (h : KeepB ks A B) (k : KeepB ks B C) : KeepB ks A C :=
  ⟨Nat.le_trans h.1 k.1, fun i hi hl => (k.2 i hi (Nat.lt_of_lt_of_le hl h.1)).trans (h.2 i hi hl)⟩
theorem KeepB.refl (ks : List Nat) (A : World) : KeepB ks A A := ⟨Nat.le_refl _, fun _ _ _ => rfl⟩
theorem KeepB.of_turns {ks cs : List Nat} {A B : World} (h : Turns cs A B) (hn : ∀ k ∈ ks, k ∉ cs) : KeepB ks A B := ⟨h.size, fun k hk hl => h.block k hl (hn k hk)⟩
theorem Turns.setNew {bs : List Nat} {w W : World} (h : Turns bs w W) {p : Addr} (hp : w.heap.size ≤ p.block) (u : Value) : Turns bs w (W.setCell p u) :=
  ⟨h.os, h.tape, h.output, by simp [World.setCell]; exact h.size, fun k hk hn => (Below.heap_setCell W p u k (by omega)).trans (h.block k hk hn)⟩

def encC (c : CutP) : Array Value := #[.int .i64 c.at_, .agg #[.int .i64 c.lo, .int .i64 c.hi]]

/-- The block of a slice's cells, if it has one. -/
def slBlk : Value → List Nat
  | .slice (some a) n _ => if n = 0 then [] else [a.block]
  | _ => []

set_option maxRecDepth 100000 in
set_option maxHeartbeats 400000 in
theorem cuts_in (n : Nat) (a : Option Addr) (k cp : Nat) (index limit : Int) (w : World) :
    CallsIn Fence.wide n Tryd.prog 30 #[.slice a k cp, .int .i64 index, .int .i64 limit] w fun e w' =>
      e = .returned (.func (.func 52) #[] #[.pointer (some ⟨w.heap.size, 0, none⟩), .pointer (some ⟨w.heap.size + 1, 0, none⟩), .pointer (some ⟨w.heap.size + 1 + 1, 0, none⟩)]) ∧
      w' = ((w.alloc (.cells #[.slice a k cp] 70)).alloc (.cells #[.int .i64 index] 3)).alloc (.cells #[.int .i64 limit] 3) := by
  refine callsIn_of_wp Tryd.func30 rfl trivial ?_ rfl
  simp only [Tryd.ntmps30, List.size_toArray, List.length_cons, List.length_nil, Nat.reduceAdd, Nat.reduceSub, Array.replicate_succ, Array.replicate_zero, List.push_toArray, List.append_toArray, List.nil_append, List.cons_append]
  gi_wp2
  go_ret
  exact ⟨rfl, rfl⟩

/-- Behind a round's beginning: the boxes, the counts. -/
theorem cut_next {wr : World} {cb ib lb xb xo cp nx : Nat} {ix lm t : Int} {c : Value} {xs : List Int} (bC : Boxed wr cb 70 c) (bI : Boxed wr ib 3 (.int .i64 ix)) (bL : Boxed wr lb 3 (.int .i64 lm))
    (hX : ∀ j, j < xs.length → wr.cell? ⟨xb, xo + j, none⟩ = some (.int .i64 (xs.getD j 0))) (hxl : xb < wr.heap.size) (hne : cb ≠ ib ∧ cb ≠ lb ∧ ib ≠ lb) (hxb : xb ≠ ib ∧ xb ≠ lb) (cs : Array Value) (n1 n2 : Int) :
    Boxed (((wr.alloc (.cells cs 68)).setCell ⟨lb, 0, none⟩ (.int .i64 n1)).setCell ⟨ib, 0, none⟩ (.int .i64 n2)) cb 70 c ∧
    Boxed (((wr.alloc (.cells cs 68)).setCell ⟨lb, 0, none⟩ (.int .i64 n1)).setCell ⟨ib, 0, none⟩ (.int .i64 n2)) ib 3 (.int .i64 n2) ∧
    Boxed (((wr.alloc (.cells cs 68)).setCell ⟨lb, 0, none⟩ (.int .i64 n1)).setCell ⟨ib, 0, none⟩ (.int .i64 n2)) lb 3 (.int .i64 n1) ∧
    (∀ j, j < xs.length → (((wr.alloc (.cells cs 68)).setCell ⟨lb, 0, none⟩ (.int .i64 n1)).setCell ⟨ib, 0, none⟩ (.int .i64 n2)).cell? ⟨xb, xo + j, none⟩ = some (.int .i64 (xs.getD j 0))) ∧
    Turns [ib, lb] wr (((wr.alloc (.cells cs 68)).setCell ⟨lb, 0, none⟩ (.int .i64 n1)).setCell ⟨ib, 0, none⟩ (.int .i64 n2)) ∧
    NumBoxes [ib, lb] wr (((wr.alloc (.cells cs 68)).setCell ⟨lb, 0, none⟩ (.int .i64 n1)).setCell ⟨ib, 0, none⟩ (.int .i64 n2)) := by
  have ht : Turns [ib, lb] wr (((wr.alloc (.cells cs 68)).setCell ⟨lb, 0, none⟩ (.int .i64 n1)).setCell ⟨ib, 0, none⟩ (.int .i64 n2)) :=
    ((Turns.alloc _ _ _).trans (Turns.setCell _ _ (by simp) _)).trans (Turns.setCell _ _ (by simp) _)
  have h1 : Boxed (((wr.alloc (.cells cs 68)).setCell ⟨lb, 0, none⟩ (.int .i64 n1)).setCell ⟨ib, 0, none⟩ (.int .i64 n2)) ib 3 (.int .i64 n2) :=
    (((bI.alloc _).kept (grownBy_setCell' _ lb _) (by simp; exact hne.2.2)).set _)
  have h2 : Boxed (((wr.alloc (.cells cs 68)).setCell ⟨lb, 0, none⟩ (.int .i64 n1)).setCell ⟨ib, 0, none⟩ (.int .i64 n2)) lb 3 (.int .i64 n1) :=
    (((bL.alloc _).set _).kept (grownBy_setCell' _ ib _) (by simp; exact fun e => hne.2.2 e.symm))
  refine ⟨(ht.block cb bC.lt (by simp; exact ⟨hne.1, hne.2.1⟩)).trans bC, h1, h2, fun j hj => ?_, ht, fun k hk t n hb => ?_⟩
  · exact (World.cell?_of_block (ht.block xb hxl (by simp; exact hxb))).trans (hX j hj)
  · rcases List.mem_cons.1 hk with rfl | hk
    · have e := (show wr.heap[k]? = _ from bI).symm.trans hb
      simp at e
      obtain ⟨_, rfl⟩ := e
      exact ⟨_, h1⟩
    · obtain rfl := List.mem_singleton.1 hk
      have e := (show wr.heap[k]? = _ from bL).symm.trans hb
      simp at e
      obtain ⟨_, rfl⟩ := e
      exact ⟨_, h2⟩

theorem cuts_step {k : Nat} {index limit : Int} {n : Int} {r : List Int} (h1 : 1 ≤ n) (h2 : 1 ≤ limit) :
    cutsFrom k index limit (n :: r) = ⟨k, index, cutTo index limit n⟩ :: cutsFrom (k + 1) 0 (limit - (cutTo index limit n - index)) r := by
  rw [cutsFrom, if_neg (by omega)]

set_option maxRecDepth 100000 in
set_option maxHeartbeats 1000000 in
theorem cutsRun (n : Nat) (hn : 1 ≤ n) (a : Option Addr) (cp : Nat) (xs : List Int) (index limit : Int) (cb ib lb : Nat) (hne : cb ≠ ib ∧ cb ≠ lb ∧ ib ≠ lb) (hx64 : ∀ x ∈ xs, -9223372036854775808 ≤ x ∧ x ≤ 9223372036854775807) (hi64 : -9223372036854775808 ≤ index ∧ index ≤ 9223372036854775807) (hl64 : -9223372036854775808 ≤ limit ∧ limit ≤ 9223372036854775807)
    (hxb : ∀ k ∈ slBlk (.slice a xs.length cp), k ≠ ib ∧ k ≠ lb) (w : World)
    (bc : Boxed w cb 70 (.slice a xs.length cp)) (bi : Boxed w ib 3 (.int .i64 index)) (bl : Boxed w lb 3 (.int .i64 limit)) (hs : Sl w (.slice a xs.length cp) (xs.map (Value.int .i64))) :
    SeqBoxes Fence.wide n Tryd.prog 52 #[.pointer (some ⟨cb, 0, none⟩), .pointer (some ⟨ib, 0, none⟩), .pointer (some ⟨lb, 0, none⟩)] encC [ib, lb]
      (KeepB (cb :: ib :: lb :: slBlk (.slice a xs.length cp))) (cutsI xs index limit) w := by
  intro l J Jx W hk hJ hJx hY h0
  refine callsIn_of_wp Tryd.func52 rfl trivial ?_ rfl
  simp only [Tryd.ntmps52, List.size_toArray, List.length_cons, List.length_nil, Nat.reduceAdd, Nat.reduceSub, Array.replicate_succ, Array.replicate_zero, List.push_toArray, List.append_toArray, List.nil_append, List.cons_append]
  have bc1 : Boxed W cb 70 (.slice a xs.length cp) := (hk.2 _ (by simp) bc.lt).trans bc
  have bi1 : Boxed W ib 3 (.int .i64 index) := (hk.2 _ (by simp) bi.lt).trans bi
  have bl1 : Boxed W lb 3 (.int .i64 limit) := (hk.2 _ (by simp) bl.lt).trans bl
  have hs1 : Sl W (.slice a xs.length cp) (xs.map (Value.int .i64)) := by
    obtain ⟨a', cap', h0, h1, h2, h3⟩ := hs
    have hl : (xs.map (Value.int .i64)).length = xs.length := by simp
    rw [hl] at h0; cases h0
    refine ⟨_, _, by rw [hl], h1, h2, fun hp => ?_⟩
    obtain ⟨b, off, rfl, hlt, hc⟩ := h3 hp
    have h0 : ¬ xs.length = 0 := by rw [hl] at hp; omega
    exact ⟨b, off, rfl, Nat.lt_of_lt_of_le hlt hk.1, fun j u hu => (World.cell?_of_block (hk.2 b (by simp [slBlk, h0]) hlt)).trans (hc j u hu)⟩
  have hcp : xs.length ≤ cp ∧ cp ≤ 9223372036854775807 := hs.len.2
  clear bc bi bl hs
  obtain ⟨c1, f1, c2, f2, c3, f3⟩ : _ ∧ _ ∧ _ ∧ _ ∧ _ ∧ _ := ⟨bc1.cell, bc1.frozen, bi1.cell, bi1.frozen, bl1.cell, bl1.frozen⟩
  have turn : ∀ k, Turns [ib, lb] W (W.drewN k) := fun k => ⟨rfl, rfl, rfl, Nat.le_refl _, fun _ _ _ => rfl⟩
  have out : ∀ k, cutsI xs index limit = [] → J (cutsI xs index limit) (W.drewN k) := fun k e => by rw [e]; exact hJ _ _ _ h0 (turn k) (NumBoxes.same fun _ => rfl)
  by_cases hA : xs.length = 0
  · have hAI : ((xs.length : Int) == 0) = true := by simp [hA]
    have HO := Lib.hid (fun k => out k (by unfold cutsI; rw [if_pos (.inl (List.length_eq_zero_iff.1 hA))]))
    clear out hk hJ hJx hY hs1
    gi_wp2
    gi_quiet (fail)
    gi_wp2
    refine bodyPost_ret (results_none rfl _ _ _) rfl ?_
    exact ⟨⟨_, rfl⟩, .inl (HO.out _)⟩
  have hAI : ((xs.length : Int) == 0) = false := by simp [hA]
  have hAN : ¬ xs.length = 0 := hA
  by_cases hB : index < 0
  · have HO := Lib.hid (fun k => out k (by unfold cutsI; rw [if_pos (.inr (.inl hB))]))
    clear out hk hJ hJx hY hs1
    gi_wp2
    gi_quiet (fail)
    gi_wp2
    refine bodyPost_ret (results_none rfl _ _ _) rfl ?_
    exact ⟨⟨_, rfl⟩, .inl (HO.out _)⟩
  have hBd : decide (index < 0) = false := decide_eq_false hB
  obtain ⟨xb, xo, rfl, hxlt, hcell⟩ := hs1.ints (k := 0) (by omega)
  have cx0 := hcell 0 (by omega)
  rw [Nat.add_zero] at cx0
  by_cases hC : xs.getD 0 0 ≤ index
  · have HO := Lib.hid (fun k => out k (by unfold cutsI; rw [if_pos (.inr (.inr hC))]))
    generalize xs.getD 0 0 = x0 at *
    clear out hk hJ hJx hY hs1 hcell
    gi_wp2
    gi_quiet (fail)
    gi_wp2
    refine bodyPost_ret (results_none rfl _ _ _) rfl ?_
    exact ⟨⟨_, rfl⟩, .inl (HO.out _)⟩
  have hCd : decide (xs.getD 0 0 ≤ index) = false := decide_eq_false hC
  have HALL := Lib.hid (show cutsI xs index limit = cutsFrom 0 index limit xs by unfold cutsI; rw [if_neg (by simp only [not_or]; exact ⟨fun e => hA (by rw [e]; rfl), hB, hC⟩)])
  generalize cutsI xs index limit = all at *
  have HX0 := Lib.hid cx0
  generalize xs.getD 0 0 = x0 at cx0 hCd
  have HC := Lib.hid hcell
  have HS := Lib.hid hs1
  have HY := Lib.hid hY
  have HJ := Lib.hid hJ
  have HJX := Lib.hid hJx
  have HT := Lib.hid turn
  clear out hk hJ hJx hY hs1 hcell turn
  have hN0 : xs.drop 0 = xs := rfl
  gi_wp2
  gi_quiet (fail)
  gi_wp2
  gi_loopw [24] (fun v wr => ∃ (k : Nat) (pre : List CutP) (ix lm : Int), k ≤ xs.length ∧ v = .int .i64 k ∧ Hid (all = pre ++ cutsFrom k ix lm (xs.drop k)) ∧ Boxed wr cb 70 (.slice (some ⟨xb, xo, none⟩) xs.length cp) ∧ Boxed wr ib 3 (.int .i64 ix) ∧ Boxed wr lb 3 (.int .i64 lm) ∧
      Hid (∀ j, j < xs.length → wr.cell? ⟨xb, xo + j, none⟩ = some (.int .i64 (xs.getD j 0))) ∧ Hid (J pre wr) ∧ xb < wr.heap.size ∧ 0 ≤ ix ∧ Hid (∀ n, xs[k]? = some n → 1 ≤ n → ix < n) ∧ -9223372036854775808 ≤ lm ∧ lm ≤ 9223372036854775807) (fun v _ => xs.length - (intOf v).toNat)
  case atStart =>
    refine ⟨0, [], index, limit, by omega, rfl, HALL, bc1, bi1, bl1, HC, ?_, hxlt, by omega, ?_, hl64.1, hl64.2⟩
    · exact HJ.out _ _ _ h0 (HT.out _) (NumBoxes.same fun _ => rfl)
    · intro n hn h1
      have := HX0.out
      rw [List.getD_eq_getElem?_getD, hn] at hC
      simpa using hC
  case round =>
    obtain ⟨k, pre, ix, lm, hk, rfl, HA, bC, bI, bL, HX, HJp, hxl2, h0ix, HIX, hl1, hl2⟩ := hrel
    clear bc1 bi1 bl1 c1 f1 c2 f2 c3 f3 cx0 hCd hBd HX0 HALL h0 hxlt
    obtain ⟨c1, f1, c2, f2, c3, f3⟩ : _ ∧ _ ∧ _ ∧ _ ∧ _ ∧ _ := ⟨bC.cell, bC.frozen, bI.cell, bI.frozen, bL.cell, bL.frozen⟩
    by_cases hlt : k < xs.length
    · obtain ⟨m, hm⟩ : ∃ m, xs[k]? = some m := ⟨xs[k], List.getElem?_eq_getElem hlt⟩
      have hmb := hx64 m (List.mem_of_getElem? hm)
      have cm : wr.cell? ⟨xb, xo + k, none⟩ = some (.int .i64 m) := by have := HX.out k hlt; rw [List.getD_eq_getElem?_getD, hm] at this; exact this
      have hdrop : xs.drop k = m :: xs.drop (k + 1) := by
        rw [List.drop_eq_getElem_cons hlt]
        rw [List.getElem?_eq_getElem hlt] at hm
        cases hm; rfl
      have hkI : (k : Int) < (xs.length : Int) := by omega
      have HLT := Lib.hid hlt
      by_cases h1 : m < 1
      · have e : cutsFrom k ix lm (xs.drop k) = [] := by rw [hdrop, cutsFrom, if_pos (.inl h1)]
        have HO := Lib.hid (show J all wr by have := HA.out; rw [e, List.append_nil] at this; rw [this]; exact HJp.out)
        clear e hdrop hm HA
        gi_wp2
        refine bodyPost_ret (results_none rfl _ _ _) rfl ?_
        exact ⟨⟨_, rfl⟩, .inl HO.out⟩
      by_cases h2 : lm < 1
      · have e : cutsFrom k ix lm (xs.drop k) = [] := by rw [hdrop, cutsFrom, if_pos (.inr h2)]
        have HO := Lib.hid (show J all wr by have := HA.out; rw [e, List.append_nil] at this; rw [this]; exact HJp.out)
        clear e hdrop hm HA
        gi_wp2
        refine bodyPost_ret (results_none rfl _ _ _) rfl ?_
        exact ⟨⟨_, rfl⟩, .inl HO.out⟩
      have hix := HIX.out m hm (by omega)
      have HM := Lib.hid hm
      have HD := Lib.hid hdrop
      clear hdrop hm
      have ne1 : ¬ lb = wr.heap.size := by have := bL.lt; omega
      have ne2 : ¬ ib = wr.heap.size := by have := bI.lt; omega
      have ne3 : ¬ wr.heap.size = lb := fun e => ne1 e.symm
      have ne4 : ¬ wr.heap.size = ib := fun e => ne2 e.symm
      have ne5 : ¬ ib = lb := hne.2.2
      have ne6 : ¬ lb = ib := fun e => ne5 e.symm
      have bI1 := bI.alloc (.cells #[.int .i64 ix, .int .i64 m] 68)
      have bL1 := bL.alloc (.cells #[.int .i64 ix, .int .i64 m] 68)
      have cI1 := bI1.cell
      have fI1 := bI1.frozen
      have cL1 := bL1.cell
      have fL1 := bL1.frozen
      have HB := Lib.hid (show xb ∈ cb :: ib :: lb :: slBlk (.slice (some ⟨xb, xo, none⟩) xs.length cp) by simp [slBlk, hAN])
      have hxb' : xb ≠ ib ∧ xb ≠ lb := hxb xb (by simp [slBlk, hAN])
      by_cases h3 : lm < m - ix
      · have bI2 := bI.alloc (.cells #[.int .i64 ix, .int .i64 (ix + lm)] 68)
        have bL2 := bL.alloc (.cells #[.int .i64 ix, .int .i64 (ix + lm)] 68)
        have cI2 := bI2.cell
        have fI2 := bI2.frozen
        have cL2 := bL2.cell
        have fL2 := bL2.frozen
        have TO := Lib.hid (show cutTo ix lm m = ix + lm by unfold cutTo; rw [if_pos h3])
        obtain ⟨nC, nI, nL, nX, nT, nB⟩ := cut_next (cp := cp) (nx := 0) (t := 0) bC bI bL HX.out hxl2 hne hxb' #[.int .i64 ix, .int .i64 (ix + lm)] (lm - (ix + lm - ix)) 0
        have hJ1 := HJ.out _ _ _ HJp.out nT nB
        have hst := cuts_step (k := k) (index := ix) (limit := lm) (n := m) (r := xs.drop (k + 1)) (by omega) (by omega)
        rw [TO.out, ← HD.out] at hst
        have HPRE := Lib.hid (show pre ++ [⟨k, ix, ix + lm⟩] <+: all by rw [HA.out, hst]; exact ⟨cutsFrom (k + 1) 0 (lm - (ix + lm - ix)) (xs.drop (k + 1)), by simp⟩)
        have HA2 := Lib.hid (show all = (pre ++ [⟨k, ix, ix + lm⟩]) ++ cutsFrom (k + 1) 0 (lm - (ix + lm - ix)) (xs.drop (k + 1)) by rw [HA.out, hst]; simp)
        obtain ⟨fn, tmps, assign, body, hy, hR⟩ := HY.out pre ⟨k, ix, ix + lm⟩ _ hJ1 HPRE.out
        simp only [encC] at hy
        have HR := Lib.hid hR
        have HN := Lib.hid (And.intro nC (And.intro nI (And.intro nL (And.intro nX nT))))
        have hlm := (show -9223372036854775808 ≤ lm - (ix + lm - ix) ∧ lm - (ix + lm - ix) ≤ 9223372036854775807 by omega)
        have HLM := Lib.hid hlm
        clear hR nC nI nL nX nT nB hJ1 hst HA hlm
        gi_wp2
        refine HR.out.mono ?_
        rintro e W3 (⟨rfl, hJ3, hk3⟩ | ⟨rfl, hJx3⟩)
        · obtain ⟨nC, nI, nL, nX, nT⟩ := HN.out
          have xlt := Nat.lt_of_lt_of_le hxl2 nT.size
          have rC := (hk3.2 _ (by simp) nC.lt).trans nC
          have rI := (hk3.2 _ (by simp) nI.lt).trans nI
          have rL := (hk3.2 _ (by simp) nL.lt).trans nL
          have RX := Lib.hid (fun j hj => (World.cell?_of_block (hk3.2 xb HB.out xlt)).trans (nX j hj))
          have xlt3 := Nat.lt_of_lt_of_le xlt hk3.1
          have HJ3 := Lib.hid hJ3
          clear nC nI nL nX nT hJ3 hk3 hy
          gi_wp2
          go_roundw
          case rel => exact ⟨k + 1, _, 0, _, HLT.out, by go_num, HA2, rC, rI, rL, RX, HJ3, xlt3, Int.le_refl _, Lib.hid (fun y _ hy1 => by omega), HLM.out.1, HLM.out.2⟩
          case measure => simp [intOf]; have := HLT.out; omega
        · clear hy
          gi_wp2
          refine bodyPost_ret (results_none rfl _ _ _) rfl ?_
          exact ⟨⟨_, rfl⟩, .inr ⟨_, HPRE.out, hJx3⟩⟩
      · have TO := Lib.hid (show cutTo ix lm m = m by unfold cutTo; rw [if_neg h3])
        obtain ⟨nC, nI, nL, nX, nT, nB⟩ := cut_next (cp := cp) (nx := 0) (t := 0) bC bI bL HX.out hxl2 hne hxb' #[.int .i64 ix, .int .i64 (m)] (lm - (m - ix)) 0
        have hJ1 := HJ.out _ _ _ HJp.out nT nB
        have hst := cuts_step (k := k) (index := ix) (limit := lm) (n := m) (r := xs.drop (k + 1)) (by omega) (by omega)
        rw [TO.out, ← HD.out] at hst
        have HPRE := Lib.hid (show pre ++ [⟨k, ix, m⟩] <+: all by rw [HA.out, hst]; exact ⟨cutsFrom (k + 1) 0 (lm - (m - ix)) (xs.drop (k + 1)), by simp⟩)
        have HA2 := Lib.hid (show all = (pre ++ [⟨k, ix, m⟩]) ++ cutsFrom (k + 1) 0 (lm - (m - ix)) (xs.drop (k + 1)) by rw [HA.out, hst]; simp)
        obtain ⟨fn, tmps, assign, body, hy, hR⟩ := HY.out pre ⟨k, ix, m⟩ _ hJ1 HPRE.out
        simp only [encC] at hy
        have HR := Lib.hid hR
        have HN := Lib.hid (And.intro nC (And.intro nI (And.intro nL (And.intro nX nT))))
        have hlm := (show -9223372036854775808 ≤ lm - (m - ix) ∧ lm - (m - ix) ≤ 9223372036854775807 by omega)
        have HLM := Lib.hid hlm
        clear hR nC nI nL nX nT nB hJ1 hst HA hlm
        gi_wp2
        refine HR.out.mono ?_
        rintro e W3 (⟨rfl, hJ3, hk3⟩ | ⟨rfl, hJx3⟩)
        · obtain ⟨nC, nI, nL, nX, nT⟩ := HN.out
          have xlt := Nat.lt_of_lt_of_le hxl2 nT.size
          have rC := (hk3.2 _ (by simp) nC.lt).trans nC
          have rI := (hk3.2 _ (by simp) nI.lt).trans nI
          have rL := (hk3.2 _ (by simp) nL.lt).trans nL
          have RX := Lib.hid (fun j hj => (World.cell?_of_block (hk3.2 xb HB.out xlt)).trans (nX j hj))
          have xlt3 := Nat.lt_of_lt_of_le xlt hk3.1
          have HJ3 := Lib.hid hJ3
          clear nC nI nL nX nT hJ3 hk3 hy
          gi_wp2
          go_roundw
          case rel => exact ⟨k + 1, _, 0, _, HLT.out, by go_num, HA2, rC, rI, rL, RX, HJ3, xlt3, Int.le_refl _, Lib.hid (fun y _ hy1 => by omega), HLM.out.1, HLM.out.2⟩
          case measure => simp [intOf]; have := HLT.out; omega
        · clear hy
          gi_wp2
          refine bodyPost_ret (results_none rfl _ _ _) rfl ?_
          exact ⟨⟨_, rfl⟩, .inr ⟨_, HPRE.out, hJx3⟩⟩
    · obtain rfl : k = xs.length := by omega
      have HO := Lib.hid (show J all wr by have := HA.out; rw [List.drop_length, cutsFrom, List.append_nil] at this; rw [this]; exact HJp.out)
      clear HA
      gi_wp2
      go_end0
      exact ⟨⟨_, rfl⟩, .inl HO.out⟩

end Go.Proofs.YtgfkejecigefbaaDoor
