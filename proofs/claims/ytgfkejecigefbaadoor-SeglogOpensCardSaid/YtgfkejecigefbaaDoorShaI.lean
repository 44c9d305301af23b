
/- The walk of the reference's Sum. -/
import Derived.Test.YtgfkejecigefbaaDoorShaH
import Derived.Test.YtgfkejecigefbaaDoorApp
namespace Go.Proofs.YtgfkejecigefbaaDoor
open Go.RowKit
set_option linter.unusedVariables false

theorem run_store_whole {P : Program} (g : Nat) (t : TypeId) (cs cur : Array Value) (w : World) (hg : w.heap[g]? = some (.cells cur t (0, 0))) (hl : cs.size = cur.size) (h1 : cs.all (·.oneCell') = true) :
    (storeCells ⟨g, 0, none⟩ cs.toList 0).run P w = .ok () (w.setRow g cs) := by
  rw [run_storeCells_from g t _ 0 _ _ hg (by simp [hl]) (fun v hv => Array.all_eq_true_iff_forall_mem.1 h1 v (by simpa using hv))]
  simp

theorem info8 : (Tryd.prog.info? 5).map (fun i => (i.zero, i.size, i.bytes)) = some (some (.int .u8 0), 1, 1) := by kernel_rfl

theorem owns_shape {w : World} {base : Nat} {e : TypeId} {v : Value} {n : Nat} {xs : List Value} (h : w.ownsRow base e 1 v n xs) : ∃ a cap, v = .slice a n cap ∧ n ≤ cap ∧ cap ≤ 9223372036854775807 := by
  obtain ⟨a, cap, rfl, h1, h2⟩ := (Sl.of_owns h).shape
  have := h.1
  rw [Nat.mul_one] at this
  rw [this] at h1 ⊢
  exact ⟨a, cap, rfl, h1, h2⟩

theorem refText_z (bs : List Int) (z : Nat) : refText bs (z + 1) 0 = refText bs z 0 ++ [0] := by
  simp [refText, List.replicate_succ']
theorem refText_k (bs : List Int) (z k : Nat) : refText bs z (k + 1) = refText bs z k ++ [(lenq bs.length (7 - k) : Int) % 256] := by
  simp [refText, List.range_succ]
theorem shr_lenq (n k : Nat) (h : k < 8) : (8 * (n : Int)) / 2 ^ (56 - 8 * (k : Int)).toNat = (lenq n (7 - k) : Int) := by
  have e : (56 - 8 * (k : Int)).toNat = 8 * (7 - k) := by omega
  rw [e]
  unfold lenq
  rw [show (256 : Nat) = 2 ^ 8 from rfl, ← Nat.pow_mul]
  rw [Int.natCast_ediv]
  norm_cast

theorem padI_bd (bs : List Int) (hB : ∀ j, 0 ≤ bs.getD j 0 ∧ bs.getD j 0 ≤ 255) (j : Nat) : 0 ≤ (padI bs).getD j 0 ∧ (padI bs).getD j 0 ≤ 255 := by
  have hbl : bs.length / 64 < blk bs.length := by unfold blk; omega
  by_cases h1 : j < 64 * (bs.length / 64)
  · rw [padI_lo bs j h1]; exact hB _
  · obtain ⟨i, rfl⟩ : ∃ i, j = 64 * (bs.length / 64) + i := ⟨j - 64 * (bs.length / 64), by omega⟩
    by_cases h2 : i < 64 * (blk bs.length - bs.length / 64)
    · rw [padI_hi bs i h2]; exact tlK_bd bs hB _ _ _
    · have hl : (padI bs).length = 64 * blk bs.length := by unfold padI finI blk; simp; omega
      rw [List.getD_eq_getElem?_getD, List.getElem?_eq_none (by omega)]; simp

/-- A slice of the call's own as a row. -/
theorem owns_row {w : World} {base : Nat} {e : TypeId} {v : Value} {n : Nat} {xs : List Value} (h : w.ownsRow base e 1 v n xs) (hn : 0 < n) :
    ∃ (g cap : Nat) (F : Nat → Value), v = .slice (some ⟨g, 0, none⟩) n cap ∧ base ≤ g ∧ n ≤ cap ∧ cap ≤ 9223372036854775807 ∧ w.rowIs g e cap F ∧ ∀ j u, xs[j]? = some u → F j = u := by
  rcases h.2 with ⟨rfl, h0⟩ | ⟨g, cap, cur, rfl, hbg, hg, hnc, hcm, hcs, htake⟩
  · omega
  · refine ⟨g, cap, fun j => cur.getD j undef, rfl, hbg, hnc, hcm, ⟨cur, hg, by omega, fun i hi => ?_⟩, fun j u hu => ?_⟩
    · rw [Array.getElem?_eq_getElem (by omega)]; simp [Array.getD, show i < cur.size by omega]
    · have hj : j < xs.length := by
        rcases Nat.lt_or_ge j xs.length with h1 | h1
        · exact h1
        · rw [List.getElem?_eq_none h1] at hu; cases hu
      rw [← htake, List.getElem?_take] at hu
      split at hu
      · simp at hu
        simp [Array.getD]
        obtain ⟨h1, h2⟩ := Array.getElem?_eq_some_iff.1 hu
        simp [h1, h2]
      · cases hu

/-- A slice of a row. -/
theorem Sl.of_rowF {w : World} {g cap : Nat} {e : TypeId} {F : Nat → Value} {xs : List Value} (h : w.rowIs g e cap F) (hF : ∀ j u, xs[j]? = some u → F j = u) (hl : xs.length ≤ cap) (hm : cap ≤ 9223372036854775807) :
    Sl w (.slice (some ⟨g, 0, none⟩) xs.length cap) xs := by
  refine ⟨_, cap, rfl, hl, hm, fun _ => ⟨g, 0, rfl, h.lt, fun j u hu => ?_⟩⟩
  have hj : j < xs.length := by
    rcases Nat.lt_or_ge j xs.length with h1 | h1
    · exact h1
    · rw [List.getElem?_eq_none h1] at hu; cases hu
  rw [← hF j u hu, Nat.zero_add]
  exact h.cell (by omega)

theorem ref_cells (f : Nat → Int) (bs : List Int) (k : Nat) {a0 a1 a2 a3 a4 a5 a6 a7 ad wd : Int}
    (q0 : rnds f bs k 0 = a0) (q1 : rnds f bs k 1 = a1) (q2 : rnds f bs k 2 = a2) (q3 : rnds f bs k 3 = a3) (q4 : rnds f bs k 4 = a4) (q5 : rnds f bs k 5 = a5) (q6 : rnds f bs k 6 = a6) (q7 : rnds f bs k 7 = a7)
    (qa : addedI.getD k 0 = ad) (qw : schedB bs 64 k = wd) (j : Nat) (hj : j < 8) :
    [Value.int .u32 (rN0 a0 a1 a2 a4 a5 a6 a7 ((ad + wd) % 4294967296)), .int .u32 a0, .int .u32 a1, .int .u32 a2, .int .u32 (rN4 a3 a4 a5 a6 a7 ((ad + wd) % 4294967296)), .int .u32 a4, .int .u32 a5, .int .u32 a6].getD j (.int .u32 (rnds f bs k j)) = .int .u32 (rnds f bs (k + 1) j) := by
  have e : rnds f bs (k + 1) j = roundI (rnds f bs k) (addedI.getD k 0) (schedB bs 64 k) j := rfl
  rw [e]
  subst q0 q1 q2 q3 q4 q5 q6 q7 qa qw
  rw [rN0_eq, rN4_eq]
  obtain rfl | rfl | rfl | rfl | rfl | rfl | rfl | rfl : j = 0 ∨ j = 1 ∨ j = 2 ∨ j = 3 ∨ j = 4 ∨ j = 5 ∨ j = 6 ∨ j = 7 := by omega
  all_goals rfl

theorem eightOther {w : World} {sb b n : Nat} {t : TypeId} {g : Nat → Value} (h : w.rowIs b t n g) (hne : ¬ b = sb) (v0 v1 v2 v3 v4 v5 v6 v7 : Value) :
    ((((((((w.setCell ⟨sb, 0, none⟩ v0).setCell ⟨sb, 1, none⟩ v1).setCell ⟨sb, 2, none⟩ v2).setCell ⟨sb, 3, none⟩ v3).setCell ⟨sb, 4, none⟩ v4).setCell ⟨sb, 5, none⟩ v5).setCell ⟨sb, 6, none⟩ v6).setCell ⟨sb, 7, none⟩ v7).rowIs b t n g :=
  have hn : ∀ j, b ≠ ({ block := sb, off := j } : Addr).block := fun j e => hne e
  (((((((h.setOther (hn 0) v0).setOther (hn 1) v1).setOther (hn 2) v2).setOther (hn 3) v3).setOther (hn 4) v4).setOther (hn 5) v5).setOther (hn 6) v6).setOther (hn 7) v7
theorem eightBelow {B sb : Nat} {a w : World} (h : Below B a w) (hne : B ≤ sb) (v0 v1 v2 v3 v4 v5 v6 v7 : Value) :
    Below B a ((((((((w.setCell ⟨sb, 0, none⟩ v0).setCell ⟨sb, 1, none⟩ v1).setCell ⟨sb, 2, none⟩ v2).setCell ⟨sb, 3, none⟩ v3).setCell ⟨sb, 4, none⟩ v4).setCell ⟨sb, 5, none⟩ v5).setCell ⟨sb, 6, none⟩ v6).setCell ⟨sb, 7, none⟩ v7) :=
  (((((((h.setCell hne v0).setCell hne v1).setCell hne v2).setCell hne v3).setCell hne v4).setCell hne v5).setCell hne v6).setCell hne v7

theorem wp_any_n {P : Program} {c : Code} {Q : Exit → Act → World → Prop} {a : Act} {F : Nat → World} (n : Nat) (h : ∀ n, Code.wp P c Q a (F n)) : Code.wp P c Q a (F n) := h n

theorem idx8 (w : World) (f : Nat → Int) (k : Nat) (hk : k < 8) : (Instr.index 138 (.agg #[.int .u32 (f 0), .int .u32 (f 1), .int .u32 (f 2), .int .u32 (f 3), .int .u32 (f 4), .int .u32 (f 5), .int .u32 (f 6), .int .u32 (f 7)]) (.int .i64 k)).run Tryd.prog w = .ok (.int .u32 (f k)) w := by
  obtain rfl | rfl | rfl | rfl | rfl | rfl | rfl | rfl : k = 0 ∨ k = 1 ∨ k = 2 ∨ k = 3 ∨ k = 4 ∨ k = 5 ∨ k = 6 ∨ k = 7 := by omega
  all_goals kernel_rfl

theorem out4 (f : Nat → Int) (q : Nat) (h : 0 ≤ f q ∧ f q ≤ 4294967295) : (List.range (4 * (q + 1))).map (outI f) = (List.range (4 * q)).map (outI f) ++ [f q / 16777216, f q / 65536 % 256, f q / 256 % 256, f q % 256] := by
  rw [show 4 * (q + 1) = 4 * q + 1 + 1 + 1 + 1 by omega, List.range_succ, List.range_succ, List.range_succ, List.range_succ]
  have e : ∀ i, i < 4 → outI f (4 * q + i) = f q / 2 ^ (8 * (3 - i)) % 256 := fun i hi => by
    unfold outI
    rw [show (4 * q + i) / 4 = q by omega, show (4 * q + i) % 4 = i by omega]
  have e0 := e 0 (by omega)
  have e1 := e 1 (by omega)
  have e2 := e 2 (by omega)
  have e3 := e 3 (by omega)
  have e4 : f q / 16777216 % 256 = f q / 16777216 := by omega
  simp at e0 e1 e2 e3
  rw [e4] at e0
  simp only [List.map_append, List.map_cons, List.map_nil, List.append_assoc, List.cons_append, List.nil_append, e0, e1, e2, e3]

theorem addsC_at (i : Nat) (h : i < 64) : addsC[i]? = some (.int .u32 (addedI.getD i 0)) := by
  have hl : addedI.length = 64 := by decide
  unfold addsC
  rw [List.getElem?_toArray, List.getElem?_map, List.getD_eq_getElem?_getD, List.getElem?_eq_getElem (by omega)]; rfl

set_option maxRecDepth 100000 in
set_option maxHeartbeats 4000000 in
theorem refSum_any (v : Value) (bs : List Int) (w : World) (hn : bs.length ≤ 140737488351232) (hB : ∀ j, 0 ≤ bs.getD j 0 ∧ bs.getD j 0 ≤ 255) (hs : Sl w v (bs.map (Value.int .u8))) :
    Calls Tryd.prog 120 #[v] w fun e w' => ∃ v', e = .returned v' ∧ Sl w' v' ((sumI bs).map (Value.int .u8)) ∧ Below w.heap.size w w' := by
  have hs1 : addsC.size = 64 := by decide
  have hs2 : addsC.all (·.oneCell') = true := by kernel_rfl
  have hs3 : (Tryd.prog.info? 157).map (·.size) = some 64 := by kernel_rfl
  obtain ⟨ad, cap, rfl, hcl, hcm⟩ := hs.shape
  simp only [List.length_map] at *
  go_enter Tryd.func120, Tryd.ntmps120
  go_upto_region 2 with (fail)
  have hb0 : Below w.heap.size w (w.alloc (.cells #[.int .u32 1779033703, .int .u32 3144134277, .int .u32 1013904242, .int .u32 2773480762, .int .u32 1359893119, .int .u32 2600822924, .int .u32 528734635, .int .u32 1541459225] 138)) := (Below.refl _ _).alloc (Nat.le_refl _) _
  have hr0 : (w.alloc (.cells #[.int .u32 1779033703, .int .u32 3144134277, .int .u32 1013904242, .int .u32 2773480762, .int .u32 1359893119, .int .u32 2600822924, .int .u32 528734635, .int .u32 1541459225] 138)).rowIs w.heap.size 138 8 (fun j => .int .u32 (firstI.getD j 0)) := World.rowIs_alloc w _ _ _ (fun i hi => by
    have hi8 : i < 8 := hi
    obtain rfl | rfl | rfl | rfl | rfl | rfl | rfl | rfl : i = 0 ∨ i = 1 ∨ i = 2 ∨ i = 3 ∨ i = 4 ∨ i = 5 ∨ i = 6 ∨ i = 7 := by omega
    all_goals rfl)
  generalize (w.alloc (.cells #[.int .u32 1779033703, .int .u32 3144134277, .int .u32 1013904242, .int .u32 2773480762, .int .u32 1359893119, .int .u32 2600822924, .int .u32 528734635, .int .u32 1541459225] 138)) = w1 at hb0 hr0 ⊢
  have hl1 : w.heap.size < w1.heap.size := hr0.lt
  go_wp2_with fail
  refine (adds_any _).mono ?_
  rintro e w2 ⟨rfl, hb2⟩
  have hr2 := hr0.of_block (hb2.block _ hr0.lt)
  have hb02 : Below w.heap.size w w2 := hb0.trans (hb2.mono (by omega))
  have hl2 : w.heap.size < w2.heap.size := hr2.lt
  clear hb0 hr0 hb2
  go_wp2_with fail
  rw [run_store_whole w2.heap.size 157 addsC _ _ (heap_alloc_new _ _) (by rw [hs1]; rfl) hs2]
  have hb3 : Below w.heap.size w ((w2.alloc (.cells (Array.replicate 64 (.int .u32 0)) 157)).setRow w2.heap.size addsC) := below_setRow (hb02.alloc (by omega) _) (by omega) _
  have hr3 : ((w2.alloc (.cells (Array.replicate 64 (.int .u32 0)) 157)).setRow w2.heap.size addsC).rowIs w.heap.size 138 8 (fun j => .int .u32 (firstI.getD j 0)) := (hr2.alloc _).of_block (setRow_other _ _ _ _ (by omega))
  have ha3 : ((w2.alloc (.cells (Array.replicate 64 (.int .u32 0)) 157)).setRow w2.heap.size addsC).rowIs w2.heap.size 157 64 (fun j => .int .u32 (addedI.getD j 0)) := ⟨addsC, setRow_heap _ _ _ _ _ _ (heap_alloc_new _ _), hs1, addsC_at⟩
  rw [show (#[.int .u32 0, .int .u32 0, .int .u32 0, .int .u32 0, .int .u32 0, .int .u32 0, .int .u32 0, .int .u32 0, .int .u32 0, .int .u32 0, .int .u32 0, .int .u32 0, .int .u32 0, .int .u32 0, .int .u32 0, .int .u32 0, .int .u32 0, .int .u32 0, .int .u32 0, .int .u32 0, .int .u32 0, .int .u32 0, .int .u32 0, .int .u32 0, .int .u32 0, .int .u32 0, .int .u32 0, .int .u32 0, .int .u32 0, .int .u32 0, .int .u32 0, .int .u32 0, .int .u32 0, .int .u32 0, .int .u32 0, .int .u32 0, .int .u32 0, .int .u32 0, .int .u32 0, .int .u32 0, .int .u32 0, .int .u32 0, .int .u32 0, .int .u32 0, .int .u32 0, .int .u32 0, .int .u32 0, .int .u32 0, .int .u32 0, .int .u32 0, .int .u32 0, .int .u32 0, .int .u32 0, .int .u32 0, .int .u32 0, .int .u32 0, .int .u32 0, .int .u32 0, .int .u32 0, .int .u32 0, .int .u32 0, .int .u32 0, .int .u32 0, .int .u32 0] : Array Value) = Array.replicate 64 (.int .u32 0) from rfl]
  have hg3 : w2.heap.size < ((w2.alloc (.cells (Array.replicate 64 (.int .u32 0)) 157)).setRow w2.heap.size addsC).heap.size := ha3.lt
  generalize ((w2.alloc (.cells (Array.replicate 64 (.int .u32 0)) 157)).setRow w2.heap.size addsC) = w3 at hb3 hr3 ha3 hg3 ⊢
  clear hr2 hb02 hl1
  generalize hG : w2.heap.size = GA at *
  have hs3' : Sl w3 _ (bs.map (Value.int .u8)) := hs.below hb3 (Nat.le_refl _)
  clear hG
  go_upto_region 4 with (fail)
  obtain ⟨i0, hi, hz0, hz1, hz2⟩ := info_parts info8
  have hone : ∀ xs : List Int, ∀ u ∈ xs.map (Value.int .u8), u.oneCell' = true := fun xs u hu => by obtain ⟨x, _, rfl⟩ := List.mem_map.1 hu; rfl
  have HN := Lib.hid hn
  have hown0 := World.ownsRow_nil w3 w3.heap.size 5 1
  clear hn
  go_wp2_with (at_builtin; go_loud (refine wpList_append_sl rfl _ _ 26 rfl w3.heap.size 5 i0 (.int .u8 0) 1 Tryd.underlying26 hi hz0 hz1 hz2 rfl _ 0 [] rfl hown0 (.slice ad bs.length cap) (bs.map (Value.int .u8)) rfl hs3' (hone _) (by have := HN.out; rw [List.length_map]; unfold maxLen; omega) (by have := HN.out; rw [List.length_map]; omega) (Nat.le_refl _) ?_))
  intro v1 w4 hown1 hg4
  have hb4 := below_grown (Below.refl w3.heap.size w3) hown0 (Nat.le_refl _) (Nat.le_refl _) hg4
  have hsz4 := hb4.size
  clear hg4 hown0 hs3'
  go_wp2_with (at_builtin; refine wpList_append_sl rfl _ _ 26 rfl w3.heap.size 5 i0 (.int .u8 0) 1 Tryd.underlying26 hi hz0 hz1 hz2 rfl _ _ _ rfl (hown1.alloc _) (.slice (some ⟨w4.heap.size, 0, none⟩) 1 1) ([128].map (Value.int .u8)) rfl (Sl.litL w4 ([128].map (Value.int .u8)) _ (by simp [maxLen])) (hone _) (by have := HN.out; simp only [List.length_map, List.length_cons, List.length_nil]; unfold maxLen; omega) (by have := HN.out; simp only [List.length_map, List.length_cons, List.length_nil]; omega) (by simp; omega) ?_)
  intro v2 w5 hown2 hg5
  have hb5 := below_append hb4 hown1 (Nat.le_refl _) hsz4 hg5
  clear hg5 hown1 hb4 hsz4
  go_wp2
  have hT0 : w5.ownsRow w3.heap.size 5 1 v2 (bs.length + 1 + 0) ((refText bs 0 0).map (Value.int .u8)) := by simpa [refText] using hown2
  obtain ⟨B, hBd⟩ : ∃ B, B = blk bs.length := ⟨_, rfl⟩
  have hB1 : bs.length + 9 ≤ 64 * B ∧ 64 * B ≤ bs.length + 72 := by rw [hBd]; unfold blk; omega
  clear hown2
  go_loopw [5] (fun v wr => ∃ z : Nat, bs.length + 1 + z + 8 ≤ 64 * B ∧ wr.ownsRow w3.heap.size 5 1 v (bs.length + 1 + z) ((refText bs z 0).map (Value.int .u8)) ∧ Below w3.heap.size w3 wr) (fun v _ => 64 * B - (lenOf v).toNat)
  case atStart => exact ⟨0, by omega, hT0, hb5⟩
  case round =>
    clear hT0 hb5
    obtain ⟨z, hz, hown, hbr⟩ := hrel
    obtain ⟨a1, cap1, rfl, hc1, hcm1⟩ := owns_shape hown
    have hsz := hbr.size
    have HBL := Lib.hid hBd
    have hBI : (B : Int) ≤ 2199023255600 := by have := HN.out; omega
    have hlz : ((bs.length + 1 + z : Nat) : Int) = (bs.length : Int) + 1 + z := by omega
    by_cases hlt : bs.length + 1 + z + 8 < 64 * B
    · have hI : (bs.length : Int) + 1 + z < 64 * (B : Int) - 8 := by omega
      clear hBd
      obtain ⟨L1, hL1⟩ : ∃ L1, L1 = bs.length + 1 + z := ⟨_, rfl⟩
      rw [← hL1] at hown hc1 ⊢
      have HL1 := Lib.hid hL1
      have hI : (L1 : Int) < 64 * (B : Int) - 8 := by omega
      clear hL1 hlz
      go_wp2_with (first | (go_at_call 131; refine (refBlocks_any _ (by have := HN.out; omega) _).mono ?_; rintro e w4 ⟨rfl, rfl⟩; rw [← HBL.out]) | (at_builtin; refine wpList_append_sl rfl _ _ 26 rfl w3.heap.size 5 i0 (.int .u8 0) 1 Tryd.underlying26 hi hz0 hz1 hz2 rfl _ _ _ rfl (hown.alloc _) (.slice (some ⟨wr.heap.size, 0, none⟩) 1 1) ([0].map (Value.int .u8)) rfl (Sl.litL wr ([0].map (Value.int .u8)) _ (by simp [maxLen])) (hone _) (by have := HN.out; have := HL1.out; simp only [List.length_map, List.length_cons, List.length_nil]; unfold maxLen; omega) (by have := HN.out; have := HL1.out; simp only [List.length_map, List.length_cons, List.length_nil]; omega) (by simp; omega) ?_))
      intro v3 w6 hown3 hg6
      have hb6 := below_append hbr hown (Nat.le_refl _) hsz hg6
      clear hg6 hown
      go_wp2
      go_roundw
      case rel =>
        have hL := HL1.out
        refine ⟨z + 1, by omega, ?_, hb6⟩
        have e : (refText bs (z + 1) 0).map (Value.int .u8) = (refText bs z 0).map (Value.int .u8) ++ [Value.int .u8 0] := by rw [refText_z]; simp
        rw [e, show bs.length + 1 + (z + 1) = L1 + 1 by omega]
        exact hown3
      case measure => 
        have hL := HL1.out
        obtain ⟨a2, cap2, rfl, _⟩ := owns_shape hown3
        simp [lenOf]; omega
    · obtain ⟨L1, hL1⟩ : ∃ L1, L1 = bs.length + 1 + z := ⟨_, rfl⟩
      have hLB : L1 + 8 = 64 * B := by omega
      rw [← hL1] at hown hc1 ⊢
      have HL1 := Lib.hid hL1
      have hI : ¬ (L1 : Int) < 64 * (B : Int) - 8 := by omega
      have HLB := Lib.hid hLB
      clear hL1 hlz hBd hLB hz hlt hB1
      go_wp2_with (first | (go_at_call 131; refine (refBlocks_any _ (by have := HN.out; omega) _).mono ?_; rintro e w4 ⟨rfl, rfl⟩; rw [← HBL.out]))
      have hT1 : wr.ownsRow w3.heap.size 5 1 (.slice a1 L1 cap1) (L1 + 0) ((refText bs z 0).map (Value.int .u8)) := hown
      clear hown
      obtain ⟨wo, rfl⟩ : ∃ wo : World, wo = wr := ⟨_, rfl⟩
      go_loopw [5, 6] (fun v i wr => ∃ k : Nat, k ≤ 8 ∧ i = .int .i64 (56 - 8 * (k : Int)) ∧ wr.ownsRow w3.heap.size 5 1 v (L1 + k) ((refText bs z k).map (Value.int .u8)) ∧ Below w3.heap.size w3 wr) (fun _ i _ => (intOf i + 8).toNat)
      case atStart => exact ⟨0, by omega, rfl, hT1, hbr⟩
      case round =>
        clear hT1 hbr hsz hI hc1 hcm1
        obtain ⟨k, hk, rfl, hown, hbr⟩ := hrel
        have hsz := hbr.size
        by_cases h8 : k < 8
        · have hsh := shr_lenq bs.length k h8
          have hq1 : (lenq bs.length (7 - k) : Int) ≤ 2251799813685248 := by have := lenq_lt bs.length (7 - k) (by have := HN.out; omega); omega
          have hI8 : (0 : Int) ≤ 56 - 8 * (k : Int) := by omega
          have hnI : (bs.length : Int) ≤ 140737488351232 := by have := HN.out; omega
          have hM : L1 + k + 1 ≤ 140737488355328 := by have := HN.out; have := HLB.out; have := HBL.out; unfold blk at this; omega
          have HM := Lib.hid hM
          generalize hq : lenq bs.length (7 - k) = q at hsh hq1
          have HQ := Lib.hid hq
          clear hq
          go_wp2_with (at_builtin; refine wpList_append_sl rfl _ _ 26 rfl w3.heap.size 5 i0 (.int .u8 0) 1 Tryd.underlying26 hi hz0 hz1 hz2 rfl _ _ _ rfl (hown.alloc _) (.slice (some ⟨wr.heap.size, 0, none⟩) 1 1) ([(q : Int) % 256].map (Value.int .u8)) rfl (Sl.litL wr ([(q : Int) % 256].map (Value.int .u8)) _ (by simp [maxLen])) (hone _) (by have := HM.out; simp only [List.length_map, List.length_cons, List.length_nil]; unfold maxLen; omega) (by have := HM.out; simp only [List.length_map, List.length_cons, List.length_nil]; omega) (by simp; omega) ?_)
          intro v3 w6 hown3 hg6
          have hb6 := below_append hbr hown (Nat.le_refl _) hsz hg6
          clear hg6 hown
          go_wp2
          go_roundw
          case rel =>
            refine ⟨k + 1, by omega, by go_num, ?_, hb6⟩
            have e : (refText bs z (k + 1)).map (Value.int .u8) = (refText bs z k).map (Value.int .u8) ++ [Value.int .u8 ((q : Int) % 256)] := by rw [refText_k, HQ.out]; simp
            rw [e, show L1 + (k + 1) = L1 + k + 1 by omega]
            exact hown3
          case measure => simp [intOf]; omega
        · have hk8 : k = 8 := by omega
          have hI8 : ¬ (0 : Int) ≤ 56 - 8 * (k : Int) := by omega
          have hpad : refText bs z 8 = padI bs := refText_pad bs z (by have h1 := HL1.out; have h2 := HLB.out; have h3 := HBL.out; omega)
          rw [hk8, hpad] at hown
          obtain ⟨N, hN⟩ : ∃ N, N = L1 + 8 := ⟨_, rfl⟩
          rw [← hN] at hown
          have hNB : N = 64 * B := by rw [hN]; exact HLB.out
          obtain ⟨tb, cap2, FT, rfl, htb0, hcT, hcT2, hrT, hFT⟩ := owns_row hown (by omega)
          have hT8 := padI_bd bs hB
          have hTl : (padI bs).length = N := by have := hown.1; simp at this; omega
          have hbw : Below w.heap.size w wr := hb3.trans (hbr.mono (by omega))
          have hrH := hr3.of_block (hbr.block _ (by omega))
          have hrA := ha3.of_block (hbr.block _ (by omega))
          have HS := Lib.hid (And.intro hN (And.intro hTl (show B = blk bs.length from HBL.out)))
          have HNB := Lib.hid hNB
          have hNI : (N : Int) ≤ 140737488355328 := by have h1 := HN.out; have h3 := HBL.out; unfold blk at h3; omega
          generalize hT : padI bs = T at hown hT8 hTl hFT
          have HT := Lib.hid hT
          have HTL := Lib.hid hTl
          generalize hG3 : w3.heap.size = G3 at *
          clear hN hNB hown hbr hsz hpad hr3 ha3 hb3 hT h8 hk8 hk HLB HL1 HBL hG3
          go_wp2
          have hrH0 : wr.rowIs w.heap.size 138 8 (fun j => .int .u32 (stI T 0 j)) := hrH
          clear hrH
          obtain ⟨wo, rfl⟩ : ∃ wo : World, wo = wr := ⟨_, rfl⟩
          go_loopw [7] (fun i wr => ∃ m : Nat, m ≤ B ∧ i = .int .i64 ((64 * m : Nat) : Int) ∧ wr.rowIs w.heap.size 138 8 (fun j => .int .u32 (stI T m j)) ∧ wr.rowIs GA 157 64 (fun j => .int .u32 (addedI.getD j 0)) ∧ wr.rowIs tb 5 cap2 FT ∧ Below w.heap.size w wr) (fun i _ => N - (intOf i).toNat)
          case atStart => exact ⟨0, by omega, rfl, hrH0, hrA, hrT, hbw⟩
          case round =>
            clear hrH0 hrA hrT hbw
            obtain ⟨m, hm, rfl, hrH, hrA, hrT, hbw⟩ := hrel
            have hszw := hbw.size
            by_cases hmB : m < B
            · have hst := Sl.of_rowF hrT hFT (by simp; omega) hcT2
              have f0 := stI_bd T m
              have bd := f0
              generalize hF : stI T m = f at hrH f0 bd
              have HF := Lib.hid hF
              clear hF f0
              have s0 : wr.cell? ⟨w.heap.size, 0, none⟩ = some (.int .u32 (f 0)) := hrH.cell (by omega)
              have s1 : wr.cell? ⟨w.heap.size, 1, none⟩ = some (.int .u32 (f 1)) := hrH.cell (by omega)
              have s2 : wr.cell? ⟨w.heap.size, 2, none⟩ = some (.int .u32 (f 2)) := hrH.cell (by omega)
              have s3 : wr.cell? ⟨w.heap.size, 3, none⟩ = some (.int .u32 (f 3)) := hrH.cell (by omega)
              have s4 : wr.cell? ⟨w.heap.size, 4, none⟩ = some (.int .u32 (f 4)) := hrH.cell (by omega)
              have s5 : wr.cell? ⟨w.heap.size, 5, none⟩ = some (.int .u32 (f 5)) := hrH.cell (by omega)
              have s6 : wr.cell? ⟨w.heap.size, 6, none⟩ = some (.int .u32 (f 6)) := hrH.cell (by omega)
              have s7 : wr.cell? ⟨w.heap.size, 7, none⟩ = some (.int .u32 (f 7)) := hrH.cell (by omega)
              obtain ⟨A, hA⟩ : ∃ A, A = 64 * m := ⟨_, rfl⟩
              rw [← hA]
              have hAN : A + 64 ≤ N := by have := HNB.out; omega
              have hANI : (A : Int) < (N : Int) := by omega
              have HA := Lib.hid hA
              have hl1 := hrH.lt
              clear hA
              go_wp2
              rw [show (#[.int .u32 0, .int .u32 0, .int .u32 0, .int .u32 0, .int .u32 0, .int .u32 0, .int .u32 0, .int .u32 0, .int .u32 0, .int .u32 0, .int .u32 0, .int .u32 0, .int .u32 0, .int .u32 0, .int .u32 0, .int .u32 0, .int .u32 0, .int .u32 0, .int .u32 0, .int .u32 0, .int .u32 0, .int .u32 0, .int .u32 0, .int .u32 0, .int .u32 0, .int .u32 0, .int .u32 0, .int .u32 0, .int .u32 0, .int .u32 0, .int .u32 0, .int .u32 0, .int .u32 0, .int .u32 0, .int .u32 0, .int .u32 0, .int .u32 0, .int .u32 0, .int .u32 0, .int .u32 0, .int .u32 0, .int .u32 0, .int .u32 0, .int .u32 0, .int .u32 0, .int .u32 0, .int .u32 0, .int .u32 0, .int .u32 0, .int .u32 0, .int .u32 0, .int .u32 0, .int .u32 0, .int .u32 0, .int .u32 0, .int .u32 0, .int .u32 0, .int .u32 0, .int .u32 0, .int .u32 0, .int .u32 0, .int .u32 0, .int .u32 0, .int .u32 0] : Array Value) = Array.replicate 64 (.int .u32 0) from rfl]
              generalize hw7 : ((wr.alloc (.cells (Array.replicate 64 (.int .u32 0)) 157)).alloc (.cells #[.int .u32 (f 0), .int .u32 (f 1), .int .u32 (f 2), .int .u32 (f 3), .int .u32 (f 4), .int .u32 (f 5), .int .u32 (f 6), .int .u32 (f 7)] 138)) = w7
              have hW0 : w7.rowIs wr.heap.size 157 64 (fun j => .int .u32 (if j < 0 then schedB (T.drop A) 64 j else 0)) := by
                rw [← hw7]
                exact (World.rowIs_alloc wr (Array.replicate 64 (.int .u32 0)) 157 (fun j => .int .u32 (if j < 0 then schedB (T.drop A) 64 j else 0)) (fun i hi => by simp only [Array.size_replicate] at hi; rw [Array.getElem?_replicate, if_pos hi, if_neg (by omega)])).alloc _
              have hV0 : w7.rowIs (wr.heap.size + 1) 138 8 (fun j => .int .u32 (rnds f (T.drop A) 0 j)) := by
                rw [← hw7]
                have := World.rowIs_alloc (wr.alloc (.cells (Array.replicate 64 (.int .u32 0)) 157)) #[.int .u32 (f 0), .int .u32 (f 1), .int .u32 (f 2), .int .u32 (f 3), .int .u32 (f 4), .int .u32 (f 5), .int .u32 (f 6), .int .u32 (f 7)] 138 (fun j => .int .u32 (rnds f (T.drop A) 0 j)) (fun i hi => by
                  have hi8 : i < 8 := hi
                  obtain rfl | rfl | rfl | rfl | rfl | rfl | rfl | rfl : i = 0 ∨ i = 1 ∨ i = 2 ∨ i = 3 ∨ i = 4 ∨ i = 5 ∨ i = 6 ∨ i = 7 := by omega
                  all_goals rfl)
                simpa using this
              have hb7 : Below wr.heap.size wr w7 := by rw [← hw7]; exact ((Below.refl _ _).alloc (Nat.le_refl _) _).alloc (by simp) _
              have hTB : ∀ j, 0 ≤ (T.drop A).getD j 0 ∧ (T.drop A).getD j 0 ≤ 255 := fun j => by rw [getD_drop]; exact hT8 _
              have hlA := hrA.lt
              have hlT := hrT.lt
              have hst7 := Sl.of_rowF hrT hFT (by rw [List.length_map]; omega) hcT2
              obtain ⟨bm, hbm⟩ : ∃ bm, bm = T.drop A := ⟨_, rfl⟩
              rw [← hbm] at hW0 hV0 hTB
              have HBM := Lib.hid hbm
              clear hbm hw7 s0 s1 s2 s3 s4 s5 s6 s7
              obtain ⟨wp, rfl⟩ : ∃ wp : World, wp = wr := ⟨_, rfl⟩
              go_loopw [56] (fun i wr => ∃ k : Nat, k ≤ 64 ∧ i = .int .i64 k ∧ wr.rowIs wp.heap.size 157 64 (fun j => .int .u32 (if j < k then schedB bm 64 j else 0)) ∧ wr.rowIs (wp.heap.size + 1) 138 8 (fun j => .int .u32 (rnds f bm k j)) ∧ Below wp.heap.size wp wr) (fun i _ => 64 - (intOf i).toNat)
              case atStart => exact ⟨0, by omega, rfl, hW0, hV0, hb7⟩
              case round =>
                clear hW0 hV0 hb7
                obtain ⟨k, hk, rfl, hW, hV, hbr⟩ := hrel
                have hsz := hbr.size
                by_cases hlt : k < 64
                · by_cases h16 : k < 16
                  · have hkI : (k : Int) < 16 := by omega
                    have hkI64 : (k : Int) < 64 := by omega
                    have e1 : ((A : Int) + 4 * (k : Int)) = ((A + 4 * k : Nat) : Int) := by omega
                    have hq : A + 4 * k + 4 ≤ N := by omega
                    obtain ⟨q, hqe⟩ : ∃ q, q = A + 4 * k := ⟨_, rfl⟩
                    rw [← hqe] at e1 hq
                    have hqI : (q : Int) ≤ (N : Int) := by omega
                    have hqC : (q : Int) ≤ (cap2 : Int) := by omega
                    have hcI : (cap2 : Int) ≤ 9223372036854775807 := by omega
                    have HQ := Lib.hid hqe
                    clear hqe
                    have hsq := (hst7.below hbr (Nat.le_refl _)).drop q (by rw [List.length_map, HTL.out]; omega)
                    rw [if_neg (by omega), ← List.map_drop, List.length_map, HTL.out] at hsq
                    have hsq : Sl wr (.slice (some ⟨tb, q, none⟩) (N - q) (cap2 - q)) ((T.drop q).map (Value.int .u8)) := by simpa using hsq
                    have hc0 : wr.cell? ⟨wp.heap.size, k, none⟩ = some (.int .u32 (if k < k then schedB bm 64 k else 0)) := hW.cell hlt
                    have hfz : wr.frozen? ⟨wp.heap.size, k, none⟩ = false := hW.frozen _
                    have hwd : schedB bm 64 k = wordI (T.drop q) := by rw [sched_lo bm hTB k h16, HBM.out, List.drop_drop, HQ.out]
                    have hTl := HTL.out
                    have hwl : 4 ≤ (T.drop q).length := by rw [List.length_drop]; omega
                    have hwB : ∀ j, 0 ≤ (T.drop q).getD j 0 ∧ (T.drop q).getD j 0 ≤ 255 := fun j => by rw [getD_drop]; exact hT8 _
                    have HWA := Lib.hid (word_any _ (T.drop q) wr hwl hwB hsq)
                    rw [← hwd] at HWA
                    clear hwd hwl hwB hsq hTl
                    go_wp2_with fail
                    refine HWA.out.mono ?_
                    rintro e w5 ⟨rfl, nq, rfl⟩
                    clear HWA
                    have hWs := World.rowIs.set (w := wr.drewN nq) hW k (.int .u32 (schedB bm 64 k))
                    have hWs := hWs.congr (g := fun j => .int .u32 (if j < k + 1 then schedB bm 64 j else 0)) fun j hj => by
                      by_cases h : j = k
                      · subst h; rw [if_pos rfl, if_pos (by omega)]
                      · rw [if_neg h]
                        by_cases h2 : j < k
                        · rw [if_pos h2, if_pos (by omega)]
                        · rw [if_neg h2, if_neg (by omega)]
                    have hVs : ((wr.drewN nq).setCell ⟨wp.heap.size, k, none⟩ (.int .u32 (schedB bm 64 k))).rowIs (wp.heap.size + 1) 138 8 (fun j => .int .u32 (rnds f bm k j)) := World.rowIs.setOther (w := wr.drewN nq) hV (by simp) _
                    have hbs : Below wp.heap.size wp ((wr.drewN nq).setCell ⟨wp.heap.size, k, none⟩ (.int .u32 (schedB bm 64 k))) := (below_drewN hbr _).setCell (Nat.le_refl _) _
                    go_upto_region 23 with (fail)
                    generalize ((wr.drewN nq).setCell ⟨wp.heap.size, k, none⟩ (.int .u32 (schedB bm 64 k))) = wy at *
                    obtain ⟨hWy, hVy, hby⟩ : _ ∧ _ ∧ _ := ⟨hWs, hVs, hbs⟩
                    clear hWs hVs hbs hW hV hbr hc0 hfz HQ e1 hq hqI hqC hkI hsz
                    have hWk : wy.cell? ⟨wp.heap.size, k, none⟩ = some (.int .u32 (schedB bm 64 k)) := by have := hWy.cell (show k < 64 from hlt); rw [if_pos (by omega)] at this; exact this
                    have hAk : wy.cell? ⟨GA, k, none⟩ = some (.int .u32 (addedI.getD k 0)) := (hrA.of_block (hby.block _ hlA)).cell hlt
                    have s0 : wy.cell? ⟨wp.heap.size + 1, 0, none⟩ = some (.int .u32 (rnds f bm k 0)) := hVy.cell (by omega)
                    have s1 : wy.cell? ⟨wp.heap.size + 1, 1, none⟩ = some (.int .u32 (rnds f bm k 1)) := hVy.cell (by omega)
                    have s2 : wy.cell? ⟨wp.heap.size + 1, 2, none⟩ = some (.int .u32 (rnds f bm k 2)) := hVy.cell (by omega)
                    have s3 : wy.cell? ⟨wp.heap.size + 1, 3, none⟩ = some (.int .u32 (rnds f bm k 3)) := hVy.cell (by omega)
                    have s4 : wy.cell? ⟨wp.heap.size + 1, 4, none⟩ = some (.int .u32 (rnds f bm k 4)) := hVy.cell (by omega)
                    have s5 : wy.cell? ⟨wp.heap.size + 1, 5, none⟩ = some (.int .u32 (rnds f bm k 5)) := hVy.cell (by omega)
                    have s6 : wy.cell? ⟨wp.heap.size + 1, 6, none⟩ = some (.int .u32 (rnds f bm k 6)) := hVy.cell (by omega)
                    have s7 : wy.cell? ⟨wp.heap.size + 1, 7, none⟩ = some (.int .u32 (rnds f bm k 7)) := hVy.cell (by omega)
                    have bdr := fun j => rnds_bd f bd bm k j
                    have B0 := bdr 0
                    have B1 := bdr 1
                    have B2 := bdr 2
                    have B3 := bdr 3
                    have B4 := bdr 4
                    have B5 := bdr 5
                    have B6 := bdr 6
                    have B7 := bdr 7
                    have BA := addedI_at k
                    have BW := schedB_bd bm 64 k
                    generalize hA0 : rnds f bm k 0 = a0 at s0 B0
                    generalize hA1 : rnds f bm k 1 = a1 at s1 B1
                    generalize hA2 : rnds f bm k 2 = a2 at s2 B2
                    generalize hA3 : rnds f bm k 3 = a3 at s3 B3
                    generalize hA4 : rnds f bm k 4 = a4 at s4 B4
                    generalize hA5 : rnds f bm k 5 = a5 at s5 B5
                    generalize hA6 : rnds f bm k 6 = a6 at s6 B6
                    generalize hA7 : rnds f bm k 7 = a7 at s7 B7
                    generalize hAD : addedI.getD k 0 = ad at hAk BA
                    generalize hWD : schedB bm 64 k = wd at hWk BW
                    have HR := Lib.hid (And.intro hA0 (And.intro hA1 (And.intro hA2 (And.intro hA3 (And.intro hA4 (And.intro hA5 (And.intro hA6 (And.intro hA7 (And.intro hAD hWD)))))))))
                    clear hA0 hA1 hA2 hA3 hA4 hA5 hA6 hA7 hAD hWD bdr
                    have hkL : (k : Int) < 64 := by omega
                    go_still_tail 8, (by kernel_rfl)
                    change wpList _ _ _ _ _ wy.drew
                    have hWz : wy.drew.rowIs wp.heap.size 157 64 (fun j => .int .u32 (if j < k + 1 then schedB bm 64 j else 0)) := hWy
                    have hVz : wy.drew.rowIs (wp.heap.size + 1) 138 8 (fun j => .int .u32 (rnds f bm k j)) := hVy
                    have hbz : Below wp.heap.size wp wy.drew := ⟨hby.os, hby.tape, hby.output, hby.size, hby.block⟩
                    have s0 : wy.drew.cell? ⟨wp.heap.size + 1, 0, none⟩ = some (.int .u32 a0) := s0
                    have s1 : wy.drew.cell? ⟨wp.heap.size + 1, 1, none⟩ = some (.int .u32 a1) := s1
                    have s2 : wy.drew.cell? ⟨wp.heap.size + 1, 2, none⟩ = some (.int .u32 a2) := s2
                    have s3 : wy.drew.cell? ⟨wp.heap.size + 1, 3, none⟩ = some (.int .u32 a3) := s3
                    have s4 : wy.drew.cell? ⟨wp.heap.size + 1, 4, none⟩ = some (.int .u32 a4) := s4
                    have s5 : wy.drew.cell? ⟨wp.heap.size + 1, 5, none⟩ = some (.int .u32 a5) := s5
                    have s6 : wy.drew.cell? ⟨wp.heap.size + 1, 6, none⟩ = some (.int .u32 a6) := s6
                    have s7 : wy.drew.cell? ⟨wp.heap.size + 1, 7, none⟩ = some (.int .u32 a7) := s7
                    have hAk : wy.drew.cell? ⟨GA, k, none⟩ = some (.int .u32 ad) := hAk
                    have hWk : wy.drew.cell? ⟨wp.heap.size, k, none⟩ = some (.int .u32 wd) := hWk
                    clear hWy hVy hby
                    generalize wy.drew = wz at *
                    have hV1 := hVz.lt
                    go_wp2_with fail
                    refine (refRound_any a0 a1 a2 a3 a4 a5 a6 a7 _ B0 B1 B2 B3 B4 B5 B6 B7 (by omega) wz).mono ?_
                    rintro e wu ⟨rfl, hbu⟩
                    have hWu := hWz.of_block (hbu.block _ (by omega))
                    have hVu := hVz.of_block (hbu.block _ hV1)
                    have hbU : Below wp.heap.size wp wu := hbz.trans (hbu.mono (by omega))
                    have z : ∀ j, wu.frozen? ⟨wp.heap.size + 1, j, none⟩ = false := fun j => hVu.frozen j
                    have z0 := z 0
                    have z1 := z 1
                    have z2 := z 2
                    have z3 := z 3
                    have z4 := z 4
                    have z5 := z 5
                    have z6 := z 6
                    have z7 := z 7
                    have y0 : wu.cell? ⟨wp.heap.size + 1, 0, none⟩ = some (.int .u32 (rnds f bm k 0)) := hVu.cell (by omega)
                    have y1 : wu.cell? ⟨wp.heap.size + 1, 1, none⟩ = some (.int .u32 (rnds f bm k 1)) := hVu.cell (by omega)
                    have y2 : wu.cell? ⟨wp.heap.size + 1, 2, none⟩ = some (.int .u32 (rnds f bm k 2)) := hVu.cell (by omega)
                    have y3 : wu.cell? ⟨wp.heap.size + 1, 3, none⟩ = some (.int .u32 (rnds f bm k 3)) := hVu.cell (by omega)
                    have y4 : wu.cell? ⟨wp.heap.size + 1, 4, none⟩ = some (.int .u32 (rnds f bm k 4)) := hVu.cell (by omega)
                    have y5 : wu.cell? ⟨wp.heap.size + 1, 5, none⟩ = some (.int .u32 (rnds f bm k 5)) := hVu.cell (by omega)
                    have y6 : wu.cell? ⟨wp.heap.size + 1, 6, none⟩ = some (.int .u32 (rnds f bm k 6)) := hVu.cell (by omega)
                    have y7 : wu.cell? ⟨wp.heap.size + 1, 7, none⟩ = some (.int .u32 (rnds f bm k 7)) := hVu.cell (by omega)
                    have e8 := fun j hj => ref_cells f bm k HR.out.1 HR.out.2.1 HR.out.2.2.1 HR.out.2.2.2.1 HR.out.2.2.2.2.1 HR.out.2.2.2.2.2.1 HR.out.2.2.2.2.2.2.1 HR.out.2.2.2.2.2.2.2.1 HR.out.2.2.2.2.2.2.2.2.1 HR.out.2.2.2.2.2.2.2.2.2 j hj
                    generalize rN0 a0 a1 a2 a4 a5 a6 a7 ((ad + wd) % 4294967296) = r0 at e8 ⊢
                    generalize rN4 a3 a4 a5 a6 a7 ((ad + wd) % 4294967296) = r4 at e8 ⊢
                    have HE8 := Lib.hid e8
                    clear e8 z s0 s1 s2 s3 s4 s5 s6 s7 hAk hWk hWz hVz hbz hbu
                    go_wp2
                    go_roundw
                    case rel =>
                      refine ⟨k + 1, by omega, by go_num, eightOther hWu (by simp) _ _ _ _ _ _ _ _, (eight hVu _ _ _ _ _ _ _ _).congr HE8.out, eightBelow hbU (by omega) _ _ _ _ _ _ _ _⟩
                    case measure => simp [intOf]; omega
                  · obtain ⟨j1, e1⟩ : ∃ j, j = k - 15 := ⟨_, rfl⟩
                    obtain ⟨j2, e2⟩ : ∃ j, j = k - 2 := ⟨_, rfl⟩
                    obtain ⟨j3, e3⟩ : ∃ j, j = k - 16 := ⟨_, rfl⟩
                    obtain ⟨j4, e4⟩ : ∃ j, j = k - 7 := ⟨_, rfl⟩
                    have HSk := Lib.hid (sched_hi bm k (by omega) hlt)
                    rw [← e1, ← e2, ← e3, ← e4] at HSk
                    have c1 : wr.cell? ⟨wp.heap.size, j1, none⟩ = some (.int .u32 (schedB bm 64 j1)) := by have := hW.cell (show j1 < 64 by omega); rw [if_pos (by omega)] at this; exact this
                    have c2 : wr.cell? ⟨wp.heap.size, j2, none⟩ = some (.int .u32 (schedB bm 64 j2)) := by have := hW.cell (show j2 < 64 by omega); rw [if_pos (by omega)] at this; exact this
                    have c3 : wr.cell? ⟨wp.heap.size, j3, none⟩ = some (.int .u32 (schedB bm 64 j3)) := by have := hW.cell (show j3 < 64 by omega); rw [if_pos (by omega)] at this; exact this
                    have c4 : wr.cell? ⟨wp.heap.size, j4, none⟩ = some (.int .u32 (schedB bm 64 j4)) := by have := hW.cell (show j4 < 64 by omega); rw [if_pos (by omega)] at this; exact this
                    have c0 : wr.cell? ⟨wp.heap.size, k, none⟩ = some (.int .u32 (if k < k then schedB bm 64 k else 0)) := hW.cell hlt
                    have hfz : wr.frozen? ⟨wp.heap.size, k, none⟩ = false := hW.frozen _
                    have b1 := schedB_bd bm 64 j1
                    have b2 := schedB_bd bm 64 j2
                    have b3 := schedB_bd bm 64 j3
                    have b4 := schedB_bd bm 64 j4
                    generalize schedB bm 64 j1 = x1 at c1 b1 HSk
                    generalize schedB bm 64 j2 = x2 at c2 b2 HSk
                    generalize schedB bm 64 j3 = x3 at c3 b3 HSk
                    generalize schedB bm 64 j4 = x4 at c4 b4 HSk
                    have q1 : IntKind.i64.wrap ((k : Int) - 15) = (j1 : Int) := by rw [IntKind.wrap_i64]; omega
                    have q2 : IntKind.i64.wrap ((k : Int) - 2) = (j2 : Int) := by rw [IntKind.wrap_i64]; omega
                    have q3 : IntKind.i64.wrap ((k : Int) - 16) = (j3 : Int) := by rw [IntKind.wrap_i64]; omega
                    have q4 : IntKind.i64.wrap ((k : Int) - 7) = (j4 : Int) := by rw [IntKind.wrap_i64]; omega
                    have l1 : (j1 : Int) < 64 := by omega
                    have l2 : (j2 : Int) < 64 := by omega
                    have l3 : (j3 : Int) < 64 := by omega
                    have l4 : (j4 : Int) < 64 := by omega
                    have l0 : (k : Int) < 64 := by omega
                    have l16 : ¬ (k : Int) < 16 := by omega
                    have m1 : ¬ j1 = k := by omega
                    have m2 : ¬ j2 = k := by omega
                    have m3 : ¬ j3 = k := by omega
                    have m4 : ¬ j4 = k := by omega
                    clear e1 e2 e3 e4
                    go_upto_region 21 with (fail)
                    go_quiet (fail)
                    obtain ⟨nqa, rfl⟩ : ∃ x : Nat, x = nq := ⟨_, rfl⟩
                    go_upto_region 22 with (fail)
                    have hW : (wr.drewN nqa).rowIs wp.heap.size 157 64 (fun j => .int .u32 (if j < k then schedB bm 64 j else 0)) := hW
                    have hV : (wr.drewN nqa).rowIs (wp.heap.size + 1) 138 8 (fun j => .int .u32 (rnds f bm k j)) := hV
                    have hbr := below_drewN hbr nqa
                    have c1 : (wr.drewN nqa).cell? ⟨wp.heap.size, j1, none⟩ = some (.int .u32 x1) := c1
                    have c2 : (wr.drewN nqa).cell? ⟨wp.heap.size, j2, none⟩ = some (.int .u32 x2) := c2
                    have c3 : (wr.drewN nqa).cell? ⟨wp.heap.size, j3, none⟩ = some (.int .u32 x3) := c3
                    have c4 : (wr.drewN nqa).cell? ⟨wp.heap.size, j4, none⟩ = some (.int .u32 x4) := c4
                    have c0 : (wr.drewN nqa).cell? ⟨wp.heap.size, k, none⟩ = some (.int .u32 (if k < k then schedB bm 64 k else 0)) := c0
                    have hfz : (wr.drewN nqa).frozen? ⟨wp.heap.size, k, none⟩ = false := hfz
                    generalize wr.drewN nqa = wq at *
                    go_region_held3 (fun w' => w'.cell? ⟨wp.heap.size, j3, none⟩ = some (.int .u32 x3) ∧ w'.cell? ⟨wp.heap.size, j4, none⟩ = some (.int .u32 x4)) (first | exact ⟨c3, c4⟩ | exact ⟨(far_cell m3).trans c3, (far_cell m4).trans c4⟩ | go_keep)
                      (first | (go_at_call 133; refine (right_any _ _ (by omega) (by omega) (by omega) (by omega) _).mono ?_; rintro e w1 ⟨rfl, n1, rfl⟩))
                    go_upto_region 23 with (fail)
                    have hval : IntKind.u32.wrap (IntKind.u32.wrap (IntKind.u32.wrap (x3 + bits BinOp.xor IntKind.u32 (bits BinOp.xor IntKind.u32 (rightI x1 7) (rightI x1 18)) (x1 / 8)) + x4) + bits BinOp.xor IntKind.u32 (bits BinOp.xor IntKind.u32 (rightI x2 17) (rightI x2 19)) (x2 / 1024)) = schedB bm 64 k := by
                      rw [IntKind.wrap_u32, IntKind.wrap_u32, IntKind.wrap_u32]; exact HSk.out.symm
                    rw [hval]
                    refine wp_any_n (F := fun n => (wq.drewN n).setCell ⟨wp.heap.size, k, none⟩ (.int .u32 (schedB bm 64 k))) _ (fun nq => ?_)
                    have hWs := World.rowIs.set (w := wq.drewN nq) hW k (.int .u32 (schedB bm 64 k))
                    have hWs := hWs.congr (g := fun j => .int .u32 (if j < k + 1 then schedB bm 64 j else 0)) fun j hj => by
                      by_cases h : j = k
                      · subst h; rw [if_pos rfl, if_pos (by omega)]
                      · rw [if_neg h]
                        by_cases h2 : j < k
                        · rw [if_pos h2, if_pos (by omega)]
                        · rw [if_neg h2, if_neg (by omega)]
                    have hVs : ((wq.drewN nq).setCell ⟨wp.heap.size, k, none⟩ (.int .u32 (schedB bm 64 k))).rowIs (wp.heap.size + 1) 138 8 (fun j => .int .u32 (rnds f bm k j)) := World.rowIs.setOther (w := wq.drewN nq) hV (by simp) _
                    have hbs : Below wp.heap.size wp ((wq.drewN nq).setCell ⟨wp.heap.size, k, none⟩ (.int .u32 (schedB bm 64 k))) := (below_drewN hbr _).setCell (Nat.le_refl _) _
                    show Code.wp _ _ _ _ ((wq.drewN nq).setCell ⟨wp.heap.size, k, none⟩ (.int .u32 (schedB bm 64 k)))
                    generalize ((wq.drewN nq).setCell ⟨wp.heap.size, k, none⟩ (.int .u32 (schedB bm 64 k))) = wy at *
                    obtain ⟨hWy, hVy, hby⟩ : _ ∧ _ ∧ _ := ⟨hWs, hVs, hbs⟩
                    clear hWs hVs hbs hW hV hbr c0 c1 c2 c3 c4 hfz hval HSk b1 b2 b3 b4 q1 q2 q3 q4 l1 l2 l3 l4 l0 l16 m1 m2 m3 m4 hsz
                    have hWk : wy.cell? ⟨wp.heap.size, k, none⟩ = some (.int .u32 (schedB bm 64 k)) := by have := hWy.cell (show k < 64 from hlt); rw [if_pos (by omega)] at this; exact this
                    have hAk : wy.cell? ⟨GA, k, none⟩ = some (.int .u32 (addedI.getD k 0)) := (hrA.of_block (hby.block _ hlA)).cell hlt
                    have s0 : wy.cell? ⟨wp.heap.size + 1, 0, none⟩ = some (.int .u32 (rnds f bm k 0)) := hVy.cell (by omega)
                    have s1 : wy.cell? ⟨wp.heap.size + 1, 1, none⟩ = some (.int .u32 (rnds f bm k 1)) := hVy.cell (by omega)
                    have s2 : wy.cell? ⟨wp.heap.size + 1, 2, none⟩ = some (.int .u32 (rnds f bm k 2)) := hVy.cell (by omega)
                    have s3 : wy.cell? ⟨wp.heap.size + 1, 3, none⟩ = some (.int .u32 (rnds f bm k 3)) := hVy.cell (by omega)
                    have s4 : wy.cell? ⟨wp.heap.size + 1, 4, none⟩ = some (.int .u32 (rnds f bm k 4)) := hVy.cell (by omega)
                    have s5 : wy.cell? ⟨wp.heap.size + 1, 5, none⟩ = some (.int .u32 (rnds f bm k 5)) := hVy.cell (by omega)
                    have s6 : wy.cell? ⟨wp.heap.size + 1, 6, none⟩ = some (.int .u32 (rnds f bm k 6)) := hVy.cell (by omega)
                    have s7 : wy.cell? ⟨wp.heap.size + 1, 7, none⟩ = some (.int .u32 (rnds f bm k 7)) := hVy.cell (by omega)
                    have bdr := fun j => rnds_bd f bd bm k j
                    have B0 := bdr 0
                    have B1 := bdr 1
                    have B2 := bdr 2
                    have B3 := bdr 3
                    have B4 := bdr 4
                    have B5 := bdr 5
                    have B6 := bdr 6
                    have B7 := bdr 7
                    have BA := addedI_at k
                    have BW := schedB_bd bm 64 k
                    generalize hA0 : rnds f bm k 0 = a0 at s0 B0
                    generalize hA1 : rnds f bm k 1 = a1 at s1 B1
                    generalize hA2 : rnds f bm k 2 = a2 at s2 B2
                    generalize hA3 : rnds f bm k 3 = a3 at s3 B3
                    generalize hA4 : rnds f bm k 4 = a4 at s4 B4
                    generalize hA5 : rnds f bm k 5 = a5 at s5 B5
                    generalize hA6 : rnds f bm k 6 = a6 at s6 B6
                    generalize hA7 : rnds f bm k 7 = a7 at s7 B7
                    generalize hAD : addedI.getD k 0 = ad at hAk BA
                    generalize hWD : schedB bm 64 k = wd at hWk BW
                    have HR := Lib.hid (And.intro hA0 (And.intro hA1 (And.intro hA2 (And.intro hA3 (And.intro hA4 (And.intro hA5 (And.intro hA6 (And.intro hA7 (And.intro hAD hWD)))))))))
                    clear hA0 hA1 hA2 hA3 hA4 hA5 hA6 hA7 hAD hWD bdr
                    have hkL : (k : Int) < 64 := by omega
                    go_still_tail 8, (by kernel_rfl)
                    change wpList _ _ _ _ _ wy.drew
                    have hWz : wy.drew.rowIs wp.heap.size 157 64 (fun j => .int .u32 (if j < k + 1 then schedB bm 64 j else 0)) := hWy
                    have hVz : wy.drew.rowIs (wp.heap.size + 1) 138 8 (fun j => .int .u32 (rnds f bm k j)) := hVy
                    have hbz : Below wp.heap.size wp wy.drew := ⟨hby.os, hby.tape, hby.output, hby.size, hby.block⟩
                    have s0 : wy.drew.cell? ⟨wp.heap.size + 1, 0, none⟩ = some (.int .u32 a0) := s0
                    have s1 : wy.drew.cell? ⟨wp.heap.size + 1, 1, none⟩ = some (.int .u32 a1) := s1
                    have s2 : wy.drew.cell? ⟨wp.heap.size + 1, 2, none⟩ = some (.int .u32 a2) := s2
                    have s3 : wy.drew.cell? ⟨wp.heap.size + 1, 3, none⟩ = some (.int .u32 a3) := s3
                    have s4 : wy.drew.cell? ⟨wp.heap.size + 1, 4, none⟩ = some (.int .u32 a4) := s4
                    have s5 : wy.drew.cell? ⟨wp.heap.size + 1, 5, none⟩ = some (.int .u32 a5) := s5
                    have s6 : wy.drew.cell? ⟨wp.heap.size + 1, 6, none⟩ = some (.int .u32 a6) := s6
                    have s7 : wy.drew.cell? ⟨wp.heap.size + 1, 7, none⟩ = some (.int .u32 a7) := s7
                    have hAk : wy.drew.cell? ⟨GA, k, none⟩ = some (.int .u32 ad) := hAk
                    have hWk : wy.drew.cell? ⟨wp.heap.size, k, none⟩ = some (.int .u32 wd) := hWk
                    clear hWy hVy hby
                    generalize wy.drew = wz at *
                    have hV1 := hVz.lt
                    go_wp2_with fail
                    refine (refRound_any a0 a1 a2 a3 a4 a5 a6 a7 _ B0 B1 B2 B3 B4 B5 B6 B7 (by omega) wz).mono ?_
                    rintro e wu ⟨rfl, hbu⟩
                    have hWu := hWz.of_block (hbu.block _ (by omega))
                    have hVu := hVz.of_block (hbu.block _ hV1)
                    have hbU : Below wp.heap.size wp wu := hbz.trans (hbu.mono (by omega))
                    have z : ∀ j, wu.frozen? ⟨wp.heap.size + 1, j, none⟩ = false := fun j => hVu.frozen j
                    have z0 := z 0
                    have z1 := z 1
                    have z2 := z 2
                    have z3 := z 3
                    have z4 := z 4
                    have z5 := z 5
                    have z6 := z 6
                    have z7 := z 7
                    have y0 : wu.cell? ⟨wp.heap.size + 1, 0, none⟩ = some (.int .u32 (rnds f bm k 0)) := hVu.cell (by omega)
                    have y1 : wu.cell? ⟨wp.heap.size + 1, 1, none⟩ = some (.int .u32 (rnds f bm k 1)) := hVu.cell (by omega)
                    have y2 : wu.cell? ⟨wp.heap.size + 1, 2, none⟩ = some (.int .u32 (rnds f bm k 2)) := hVu.cell (by omega)
                    have y3 : wu.cell? ⟨wp.heap.size + 1, 3, none⟩ = some (.int .u32 (rnds f bm k 3)) := hVu.cell (by omega)
                    have y4 : wu.cell? ⟨wp.heap.size + 1, 4, none⟩ = some (.int .u32 (rnds f bm k 4)) := hVu.cell (by omega)
                    have y5 : wu.cell? ⟨wp.heap.size + 1, 5, none⟩ = some (.int .u32 (rnds f bm k 5)) := hVu.cell (by omega)
                    have y6 : wu.cell? ⟨wp.heap.size + 1, 6, none⟩ = some (.int .u32 (rnds f bm k 6)) := hVu.cell (by omega)
                    have y7 : wu.cell? ⟨wp.heap.size + 1, 7, none⟩ = some (.int .u32 (rnds f bm k 7)) := hVu.cell (by omega)
                    have e8 := fun j hj => ref_cells f bm k HR.out.1 HR.out.2.1 HR.out.2.2.1 HR.out.2.2.2.1 HR.out.2.2.2.2.1 HR.out.2.2.2.2.2.1 HR.out.2.2.2.2.2.2.1 HR.out.2.2.2.2.2.2.2.1 HR.out.2.2.2.2.2.2.2.2.1 HR.out.2.2.2.2.2.2.2.2.2 j hj
                    generalize rN0 a0 a1 a2 a4 a5 a6 a7 ((ad + wd) % 4294967296) = r0 at e8 ⊢
                    generalize rN4 a3 a4 a5 a6 a7 ((ad + wd) % 4294967296) = r4 at e8 ⊢
                    have HE8 := Lib.hid e8
                    clear e8 z s0 s1 s2 s3 s4 s5 s6 s7 hAk hWk hWz hVz hbz hbu
                    go_wp2
                    go_roundw
                    case rel =>
                      refine ⟨k + 1, by omega, by go_num, eightOther hWu (by simp) _ _ _ _ _ _ _ _, (eight hVu _ _ _ _ _ _ _ _).congr HE8.out, eightBelow hbU (by omega) _ _ _ _ _ _ _ _⟩
                    case measure => simp [intOf]; omega
                · have hk64 : k = 64 := by omega
                  have hkn : ¬ (k : Int) < 64 := by omega
                  rw [hk64] at hV
                  clear hW hlt hk64 hk
                  go_wp2
                  have hrH5 := hrH.of_block (hbr.block _ hl1)
                  have hrA5 := hrA.of_block (hbr.block _ hlA)
                  have hrT5 := hrT.of_block (hbr.block _ hlT)
                  have hb5 : Below w.heap.size w wr := hbw.trans (hbr.mono hszw)
                  clear hbr hsz
                  generalize hVB : wp.heap.size + 1 = VB at *
                  have hneV : w.heap.size < VB := by omega
                  have hrV5 := hV
                  have hrH6 := hrH5.congr (g := fun j => .int .u32 (if j < 0 then takeI f bm j else f j)) fun j hj => by rw [if_neg (by omega)]
                  clear hrH5 hrH hrA hrT hbw hV
                  obtain ⟨wo, rfl⟩ : ∃ wo : World, wo = wr := ⟨_, rfl⟩
                  go_loopw [117] (fun i wr => ∃ q : Nat, q ≤ 8 ∧ i = .int .i64 q ∧ wr.rowIs w.heap.size 138 8 (fun j => .int .u32 (if j < q then takeI f bm j else f j)) ∧ wr.rowIs VB 138 8 (fun j => .int .u32 (rnds f bm 64 j)) ∧ wr.rowIs GA 157 64 (fun j => .int .u32 (addedI.getD j 0)) ∧ wr.rowIs tb 5 cap2 FT ∧ Below w.heap.size w wr) (fun i _ => 8 - (intOf i).toNat)
                  case atStart => exact ⟨0, by omega, rfl, hrH6, hrV5, hrA5, hrT5, hb5⟩
                  case round =>
                    clear hrH6 hrV5 hrA5 hrT5 hb5
                    obtain ⟨q, hq, rfl, hrH, hrV, hrA, hrT, hbw⟩ := hrel
                    by_cases hq8 : q < 8
                    · have c1 : wr.cell? ⟨w.heap.size, q, none⟩ = some (.int .u32 (f q)) := by have := hrH.cell hq8; rw [if_neg (by omega)] at this; exact this
                      have c2 : wr.cell? ⟨VB, q, none⟩ = some (.int .u32 (rnds f bm 64 q)) := hrV.cell hq8
                      have b1 := bd q
                      have b2 := rnds_bd f bd bm 64 q
                      have hq8I : (q : Int) < 8 := by omega
                      have hH2 := (hrH.set q (.int .u32 ((f q + rnds f bm 64 q) % 4294967296))).congr (g := fun j => .int .u32 (if j < q + 1 then takeI f bm j else f j)) fun j hj => by
                        by_cases h : j = q
                        · subst h; rw [if_pos rfl, if_pos (by omega)]; unfold takeI; rw [Int.add_comm]
                        · rw [if_neg h]
                          by_cases h2 : j < q
                          · rw [if_pos h2, if_pos (by omega)]
                          · rw [if_neg h2, if_neg (by omega)]
                      have hfz : wr.frozen? ⟨w.heap.size, q, none⟩ = false := hrH.frozen _
                      have HH2 := Lib.hid hH2
                      clear hH2
                      generalize hX : rnds f bm 64 q = X at c2 b2 HH2
                      generalize hY : f q = Y at c1 b1 HH2
                      have HXY := Lib.hid (And.intro hX hY)
                      clear hX hY
                      go_upto_region 28 with (fail)
                      go_still_tail 8, (by kernel_rfl)
                      change wpList _ _ _ _ _ wr.drew
                      have c1 : wr.drew.cell? ⟨w.heap.size, q, none⟩ = some (.int .u32 Y) := c1
                      have hfz : wr.drew.frozen? ⟨w.heap.size, q, none⟩ = false := hfz
                      have hH2 : (wr.drew.setCell ⟨w.heap.size, q, none⟩ (.int .u32 ((Y + X) % 4294967296))).rowIs w.heap.size 138 8 (fun j => .int .u32 (if j < q + 1 then takeI f bm j else f j)) := HH2.out
                      have hV2 : (wr.drew.setCell ⟨w.heap.size, q, none⟩ (.int .u32 ((Y + X) % 4294967296))).rowIs VB 138 8 (fun j => .int .u32 (rnds f bm 64 j)) := World.rowIs.setOther (w := wr.drew) hrV (show VB ≠ w.heap.size by omega) _
                      have hA2 : (wr.drew.setCell ⟨w.heap.size, q, none⟩ (.int .u32 ((Y + X) % 4294967296))).rowIs GA 157 64 (fun j => .int .u32 (addedI.getD j 0)) := World.rowIs.setOther (w := wr.drew) hrA (show GA ≠ w.heap.size by omega) _
                      have hT2 : (wr.drew.setCell ⟨w.heap.size, q, none⟩ (.int .u32 ((Y + X) % 4294967296))).rowIs tb 5 cap2 FT := World.rowIs.setOther (w := wr.drew) hrT (show tb ≠ w.heap.size by omega) _
                      have hb2 : Below w.heap.size w (wr.drew.setCell ⟨w.heap.size, q, none⟩ (.int .u32 ((Y + X) % 4294967296))) := (show Below w.heap.size w wr.drew from ⟨hbw.os, hbw.tape, hbw.output, hbw.size, hbw.block⟩).setCell (Nat.le_refl _) _
                      clear hrH hrV hrA hrT hbw HH2
                      go_wp2
                      go_roundw
                      case rel => exact ⟨q + 1, by omega, by go_num, hH2, hV2, hA2, hT2, hb2⟩
                      case measure => simp [intOf]; omega
                    · have hq88 : q = 8 := by omega
                      have hqn : ¬ (q : Int) < 8 := by omega
                      have hH3 := hrH.congr (g := fun j => .int .u32 (stI T (m + 1) j)) fun j hj => by
                        rw [if_pos (by omega)]
                        show _ = Value.int .u32 (takeI (stI T m) (T.drop (64 * m)) j)
                        rw [HF.out, ← HA.out, ← HBM.out]
                      have hAI : (A : Int) + 64 ≤ 140737488355328 := by omega
                      clear hrH hrV
                      go_wp2
                      go_roundw
                      case rel => exact ⟨m + 1, by omega, by have := HA.out; go_num, hH3, hrA, hrT, hbw⟩
                      case measure => simp [intOf]; omega
            · have hmB' : m = B := by omega
              rw [hmB'] at hrH
              have hnI : ¬ ((64 * m : Nat) : Int) < (N : Int) := by have := HNB.out; omega
              clear hmB hmB' hm
              generalize hF : stI T B = f at hrH
              have hFF : f = stI (padI bs) (blk bs.length) := by rw [← hF, ← HT.out, HS.out.2.2]
              have HF := Lib.hid hFF
              clear hF hFF
              have bd := fun j => stI_bd (padI bs) (blk bs.length) j
              rw [← HF.out] at bd
              have s0 : wr.cell? ⟨w.heap.size, 0, none⟩ = some (.int .u32 (f 0)) := hrH.cell (by omega)
              have s1 : wr.cell? ⟨w.heap.size, 1, none⟩ = some (.int .u32 (f 1)) := hrH.cell (by omega)
              have s2 : wr.cell? ⟨w.heap.size, 2, none⟩ = some (.int .u32 (f 2)) := hrH.cell (by omega)
              have s3 : wr.cell? ⟨w.heap.size, 3, none⟩ = some (.int .u32 (f 3)) := hrH.cell (by omega)
              have s4 : wr.cell? ⟨w.heap.size, 4, none⟩ = some (.int .u32 (f 4)) := hrH.cell (by omega)
              have s5 : wr.cell? ⟨w.heap.size, 5, none⟩ = some (.int .u32 (f 5)) := hrH.cell (by omega)
              have s6 : wr.cell? ⟨w.heap.size, 6, none⟩ = some (.int .u32 (f 6)) := hrH.cell (by omega)
              have s7 : wr.cell? ⟨w.heap.size, 7, none⟩ = some (.int .u32 (f 7)) := hrH.cell (by omega)
              go_wp2
              clear s0 s1 s2 s3 s4 s5 s6 s7 hrH hrA hrT
              have hszw' := hszw
              obtain ⟨wo, rfl⟩ : ∃ wo : World, wo = wr := ⟨_, rfl⟩
              go_loopw [14, 130] (fun v i wr => ∃ q : Nat, q ≤ 8 ∧ i = .int .i64 q ∧ wr.ownsRow wo.heap.size 5 1 v (4 * q) (((List.range (4 * q)).map (outI f)).map (Value.int .u8)) ∧ Below wo.heap.size wo wr) (fun _ i _ => 8 - (intOf i).toNat)
              case atStart => exact ⟨0, by omega, rfl, World.ownsRow_nil _ _ _ _, Below.refl _ _⟩
              case round =>
                obtain ⟨q, hq, rfl, hown, hbr⟩ := hrel
                have hsz := hbr.size
                by_cases hq8 : q < 8
                · have hidx : ∀ w, (Instr.index 138 (.agg #[.int .u32 (f 0), .int .u32 (f 1), .int .u32 (f 2), .int .u32 (f 3), .int .u32 (f 4), .int .u32 (f 5), .int .u32 (f 6), .int .u32 (f 7)]) (.int .i64 q)).run Tryd.prog w = .ok (.int .u32 (f q)) w := fun w => idx8 w f q hq8
                  have hq8I : (q : Int) < 8 := by omega
                  have b1 := bd q
                  have HO := Lib.hid (out4 f q b1)
                  generalize f q = X at hidx b1 HO
                  go_wp2_with (at_builtin; refine wpList_append_sl rfl _ _ 26 rfl wo.heap.size 5 i0 (.int .u8 0) 1 Tryd.underlying26 hi hz0 hz1 hz2 rfl _ _ _ rfl (hown.alloc _) (.slice (some ⟨wr.heap.size, 0, none⟩) 4 4) ([X / 16777216, X / 65536 % 256, X / 256 % 256, X % 256].map (Value.int .u8)) rfl (Sl.litL wr ([X / 16777216, X / 65536 % 256, X / 256 % 256, X % 256].map (Value.int .u8)) _ (by simp [maxLen])) (hone _) (by simp only [List.length_map, List.length_cons, List.length_nil]; unfold maxLen; omega) (by simp only [List.length_map, List.length_cons, List.length_nil]; omega) (by simp; omega) ?_)
                  intro v3 w6 hown3 hg6
                  have hb6 := below_append hbr hown (Nat.le_refl _) hsz hg6
                  clear hg6 hown
                  go_wp2
                  go_roundw
                  case rel =>
                    refine ⟨q + 1, by omega, by go_num, ?_, hb6⟩
                    rw [HO.out, List.map_append, List.map_map]
                    exact hown3
                  case measure => simp [intOf]; omega
                · have hq88 : q = 8 := by omega
                  have hqn : ¬ (q : Int) < 8 := by omega
                  rw [hq88] at hown
                  go_wp2
                  go_ret
                  refine ⟨_, rfl, ?_, hbw.trans (hbr.mono hszw)⟩
                  have := Sl.of_owns hown
                  rw [HF.out] at this
                  exact this

end Go.Proofs.YtgfkejecigefbaaDoor
