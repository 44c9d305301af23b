
/- slices.Chunk at bytes, sixty-four at a time: its iterator's contract. Conditions: the bytes are not empty. -/
import Derived.Test.YtgfkejecigefbaaDoorCutI
namespace Go.Proofs.YtgfkejecigefbaaDoor
open Go.RowKit Go.Shelf
set_option linter.unusedVariables false
attribute [local go_sem] Oper.semAt_some

/-- The k-th piece of so many bytes that lie there. -/
def encK (sb so len : Nat) (k : Nat) : Array Value := #[.slice (some ⟨sb, so + 64 * k, none⟩) (min 64 (len - 64 * k)) (min 64 (len - 64 * k))]
def parts64 (len : Nat) : Nat := (len + 63) / 64

set_option maxRecDepth 100000 in
set_option maxHeartbeats 400000 in
theorem chunk_in (n : Nat) (a : Option Addr) (k cp : Nat) (w : World) :
    CallsIn Fence.wide n Tryd.prog 82 #[.slice a k cp, .int .i64 64] w fun e w' =>
      e = .returned (.func (.func 107) #[] #[.pointer (some ⟨w.heap.size, 0, none⟩), .pointer (some ⟨w.heap.size + 1, 0, none⟩)]) ∧
      w' = (w.alloc (.cells #[.slice a k cp] 26)).alloc (.cells #[.int .i64 64] 3) := by
  refine callsIn_of_wp Tryd.func82 rfl trivial ?_ rfl
  simp only [Tryd.ntmps82, List.size_toArray, List.length_cons, List.length_nil, Nat.reduceAdd, Nat.reduceSub, Array.replicate_succ, Array.replicate_zero, List.push_toArray, List.append_toArray, List.nil_append, List.cons_append]
  gi_wp2
  go_ret
  exact ⟨rfl, rfl⟩

theorem small_sum {a b : Int} {r : Nat} (h : a + b = (r : Int)) (hr : r ≤ 2000000) : wrap64 (a + b) = (r : Int) := by rw [h]; unfold wrap64; omega
set_option maxRecDepth 100000 in
set_option maxHeartbeats 1000000 in
theorem chunkRun (n : Nat) (hn : 1 ≤ n) (sb so len cap : Nat) (cb nb : Nat) (h0 : 0 < len) (hlc : len ≤ cap) (hcm : cap ≤ 9223372036854775807) (hl : len ≤ 1000000) (w : World)
    (bc : Boxed w cb 26 (.slice (some ⟨sb, so, none⟩) len cap)) (bn : Boxed w nb 3 (.int .i64 64)) :
    SeqBoxes Fence.wide n Tryd.prog 107 #[.pointer (some ⟨cb, 0, none⟩), .pointer (some ⟨nb, 0, none⟩)] (encK sb so len) [] (KeepB [cb, nb]) (List.range (parts64 len)) w := by
  intro l J Jx W hk hJ hJx hY h00
  refine callsIn_of_wp Tryd.func107 rfl trivial ?_ rfl
  simp only [Tryd.ntmps107, List.size_toArray, List.length_cons, List.length_nil, Nat.reduceAdd, Nat.reduceSub, Array.replicate_succ, Array.replicate_zero, List.push_toArray, List.append_toArray, List.nil_append, List.cons_append]
  have bc1 : Boxed W cb 26 (.slice (some ⟨sb, so, none⟩) len cap) := (hk.2 _ (by simp) bc.lt).trans bc
  have bn1 : Boxed W nb 3 (.int .i64 64) := (hk.2 _ (by simp) bn.lt).trans bn
  clear bc bn
  have HY := Lib.hid hY
  have HJ := Lib.hid hJ
  have HJX := Lib.hid hJx
  have HN := Lib.hid (show parts64 len = (len + 63) / 64 from rfl)
  generalize parts64 len = N at *
  clear hY hJ hJx hk
  gi_wp2
  gi_loopw [4] (fun v wr => ∃ k : Nat, v = .int .i64 ((64 * k : Nat) : Int) ∧ k ≤ N ∧ Boxed wr cb 26 (.slice (some ⟨sb, so, none⟩) len cap) ∧ Boxed wr nb 3 (.int .i64 64) ∧ Hid (J (List.range k) wr)) (fun v _ => 64 * N - (intOf v).toNat)
  case atStart => exact ⟨0, rfl, by omega, bc1, bn1, h00⟩
  case round =>
    obtain ⟨k, rfl, hk, bC, bN, HJp⟩ := hrel
    clear bc1 bn1 h00
    obtain ⟨c1, f1, c2, f2⟩ : _ ∧ _ ∧ _ ∧ _ := ⟨bC.cell, bC.frozen, bN.cell, bN.frozen⟩
    have hNN := HN.out
    by_cases hlt : k < N
    · have hq : 64 * k < len := by omega
      have HENC := Lib.hid (show encK sb so len k = #[.slice (some ⟨sb, so + 64 * k, none⟩) (min 64 (len - 64 * k)) (min 64 (len - 64 * k))] from rfl)
      obtain ⟨e, he⟩ : ∃ e : Nat, e = min 64 (len - 64 * k) := ⟨_, rfl⟩
      have he1 : 1 ≤ e ∧ e ≤ 64 ∧ 64 * k + e ≤ len := by omega
      have hmin : (if ((len - 64 * k : Nat) : Int) < 64 then ((len - 64 * k : Nat) : Int) else 64) = (e : Int) := by split <;> omega
      rw [← he] at HENC
      have HLT := Lib.hid hlt
      have HK1 := Lib.hid (show ((64 * k : Nat) : Int) + 64 = ((64 * (k + 1) : Nat) : Int) by omega)
      have HMEA := Lib.hid (show 64 * N - 64 * (k + 1) < 64 * N - 64 * k by omega)
      generalize hqd : 64 * k = q at *
      have hqI : (q : Int) < (len : Int) := by omega
      have hqL : (q : Int) ≤ (len : Int) := by omega
      have hcq : ¬ cap = q := by omega
      obtain ⟨r, hr⟩ : ∃ r : Nat, r = q + e := ⟨_, rfl⟩
      have hse : (q : Int) + (e : Int) = (r : Int) := by omega
      have hse1 : (r : Int) ≤ (cap : Int) := by omega
      have hse2 : (q : Int) ≤ (r : Int) := by omega
      have hse3 : wrap64 ((q : Int) + (e : Int)) = (r : Int) := small_sum hse (by omega)
      have HRQ := Lib.hid hr
      have hre : r - q = e := by rw [hr]; exact Nat.add_sub_cancel_left _ _
      have hqcap : (q : Int) < (cap : Int) := Int.lt_of_lt_of_le hqI (Int.ofNat_le.2 hlc)
      clear hr
      have HQD := Lib.hid hqd
      clear hNN he hk hlt hq hqd
      have HMIN := Lib.hid hmin
      clear hmin
      gi_wp2
      gi_quiet (fail)
      rw [HMIN.out]
      have ht : Turns [] wr (wr.drewN nq) := ⟨rfl, rfl, rfl, Nat.le_refl _, fun _ _ _ => rfl⟩
      have hJ1 := HJ.out _ _ _ HJp.out ht (NumBoxes.same fun _ => rfl)
      have bC1 : Boxed (wr.drewN nq) cb 26 (.slice (some ⟨sb, so, none⟩) len cap) := bC
      have bN1 : Boxed (wr.drewN nq) nb 3 (.int .i64 64) := bN
      have HPRE := Lib.hid (show List.range k ++ [k] <+: List.range N by
        have hlt := HLT.out
        rw [← List.range_succ]
        exact ⟨(List.range (N - (k + 1))).map fun x => k + 1 + x, by rw [← List.range_add]; congr 1; omega⟩)
      generalize wr.drewN nq = W1 at *
      obtain ⟨fn, tmps, assign, body, hy, hR⟩ := HY.out (List.range k) k _ hJ1 HPRE.out
      rw [HENC.out] at hy
      have HR := Lib.hid hR
      clear c1 f1 c2 f2 bC bN ht hJ1 hR HJp
      obtain ⟨c1, f1, c2, f2⟩ : _ ∧ _ ∧ _ ∧ _ := ⟨bC1.cell, bC1.frozen, bN1.cell, bN1.frozen⟩
      have HC := Lib.hid bC1
      have HB := Lib.hid bN1
      clear bC1 bN1
      gi_wp2
      refine HR.out.mono ?_
      rintro e W3 (⟨rfl, hJ3, hk3⟩ | ⟨rfl, hJx3⟩)
      · have rC := (hk3.2 _ (by simp) HC.out.lt).trans HC.out
        have rN := (hk3.2 _ (by simp) HB.out.lt).trans HB.out
        have rC : Boxed W3 cb 26 (.slice (some ⟨sb, so, none⟩) len cap) := rC
        have rN : Boxed W3 nb 3 (.int .i64 64) := rN
        have HJ3 := Lib.hid hJ3
        clear hJ3 hk3 hy c1 f1 c2 f2
        obtain ⟨c1, f1, c2, f2⟩ : _ ∧ _ ∧ _ ∧ _ := ⟨rC.cell, rC.frozen, rN.cell, rN.frozen⟩
        gi_wp2
        go_roundw
        case rel => exact ⟨k + 1, by rw [HK1.out], HLT.out, rC, rN, by rw [List.range_succ]; exact HJ3.out⟩
        case measure => rw [HK1.out]; simp only [intOf, Int.toNat_natCast]; exact HMEA.out
      · clear hy
        gi_wp2
        refine bodyPost_ret (results_none rfl _ _ _) rfl ?_
        exact ⟨⟨_, rfl⟩, .inr ⟨_, HPRE.out, hJx3⟩⟩
    · obtain rfl : k = N := by omega
      have hqI : ¬ ((64 * k : Nat) : Int) < (len : Int) := by omega
      generalize 64 * k = q at *
      clear hNN hlt hk
      gi_wp2
      go_end0
      exact ⟨⟨_, rfl⟩, .inl HJp.out⟩

end Go.Proofs.YtgfkejecigefbaaDoor
