
/- The walk of (*sha.sums).take. -/
import Derived.Test.YtgfkejecigefbaaDoorShaB
import Derived.Laws.Rows
import Derived.StillTailTactics
namespace Go.Proofs.YtgfkejecigefbaaDoor
open Go.RowKit
set_option linter.unusedVariables false

def addedI : List Int := [1116352408, 1899447441, 3049323471, 3921009573, 961987163, 1508970993, 2453635748, 2870763221, 3624381080, 310598401, 607225278, 1426881987, 1925078388, 2162078206, 2614888103, 3248222580, 3835390401, 4022224774, 264347078, 604807628, 770255983, 1249150122, 1555081692, 1996064986, 2554220882, 2821834349, 2952996808, 3210313671, 3336571891, 3584528711, 113926993, 338241895, 666307205, 773529912, 1294757372, 1396182291, 1695183700, 1986661051, 2177026350, 2456956037, 2730485921, 2820302411, 3259730800, 3345764771, 3516065817, 3600352804, 4094571909, 275423344, 430227734, 506948616, 659060556, 883997877, 958139571, 1322822218, 1537002063, 1747873779, 1955562222, 2024104815, 2227730452, 2361852424, 2428436474, 2756734187, 3204031479, 3329325298]

theorem addedI_bd : ∀ x ∈ addedI, 0 ≤ x ∧ x ≤ 4294967295 := by decide

theorem addedI_at (k : Nat) : 0 ≤ addedI.getD k 0 ∧ addedI.getD k 0 ≤ 4294967295 := by
  rw [List.getD_eq_getElem?_getD]
  rcases Nat.lt_or_ge k addedI.length with h | h
  · rw [List.getElem?_eq_getElem h]; exact addedI_bd _ (List.getElem_mem h)
  · rw [List.getElem?_eq_none h]; simp

def tI (f : Nat → Int) (ad wd : Int) : Int := ((f 7 + sigmaI (f 4) 6 11 25 + bits .xor .u32 (bits .and .u32 (f 4) (bits .xor .u32 (f 5) (f 6))) (f 6) + ad) % 4294967296 + wd) % 4294967296
def uSha (f : Nat → Int) : Int := (sigmaI (f 0) 2 13 22 + bits .or .u32 (bits .and .u32 (f 0) (bits .or .u32 (f 1) (f 2))) (bits .and .u32 (f 1) (f 2))) % 4294967296
def roundI (f : Nat → Int) (ad wd : Int) : Nat → Int
  | 0 => (tI f ad wd + uSha f) % 4294967296
  | 1 => f 0
  | 2 => f 1
  | 3 => f 2
  | 4 => (f 3 + tI f ad wd) % 4294967296
  | 5 => f 4
  | 6 => f 5
  | 7 => f 6
  | j => f j
def rnds (f : Nat → Int) (bs : List Int) : Nat → Nat → Int
  | 0 => f
  | k + 1 => roundI (rnds f bs k) (addedI.getD k 0) (schedB bs 64 k)

/-- The sums behind a block. -/
def takeI (f : Nat → Int) (bs : List Int) (j : Nat) : Int := (rnds f bs 64 j + f j) % 4294967296

theorem roundI_bd (f : Nat → Int) (hf : ∀ j, 0 ≤ f j ∧ f j ≤ 4294967295) (ad wd : Int) (j : Nat) : 0 ≤ roundI f ad wd j ∧ roundI f ad wd j ≤ 4294967295 := by
  unfold roundI
  split <;> first | exact hf _ | omega

theorem rnds_bd (f : Nat → Int) (hf : ∀ j, 0 ≤ f j ∧ f j ≤ 4294967295) (bs : List Int) (k j : Nat) : 0 ≤ rnds f bs k j ∧ rnds f bs k j ≤ 4294967295 := by
  induction k generalizing j with
  | zero => exact hf j
  | succ k ih => exact roundI_bd _ ih _ _ j

theorem grown_set {w0 w : World} {b j : Nat} {u : Value} (h : w0.grownBy w (some b)) : w0.grownBy (w.setCell ⟨b, j, none⟩ u) (some b) :=
  ⟨h.os, h.tape, h.output, by simp; exact h.size, fun k hk hne => by
    rw [Below.heap_setCell _ _ _ _ (fun e => hne (by rw [e]))]
    exact h.block k hk hne⟩

theorem eight {w : World} {sb : Nat} {t : TypeId} {g : Nat → Value} (h : w.rowIs sb t 8 g) (v0 v1 v2 v3 v4 v5 v6 v7 : Value) :
    ((((((((w.setCell ⟨sb, 0, none⟩ v0).setCell ⟨sb, 1, none⟩ v1).setCell ⟨sb, 2, none⟩ v2).setCell ⟨sb, 3, none⟩ v3).setCell ⟨sb, 4, none⟩ v4).setCell ⟨sb, 5, none⟩ v5).setCell ⟨sb, 6, none⟩ v6).setCell ⟨sb, 7, none⟩ v7).rowIs sb t 8
      (fun j => [v0, v1, v2, v3, v4, v5, v6, v7].getD j (g j)) := by
  refine ((((((((h.set 0 v0).set 1 v1).set 2 v2).set 3 v3).set 4 v4).set 5 v5).set 6 v6).set 7 v7).congr fun j hj => ?_
  obtain rfl | rfl | rfl | rfl | rfl | rfl | rfl | rfl : j = 0 ∨ j = 1 ∨ j = 2 ∨ j = 3 ∨ j = 4 ∨ j = 5 ∨ j = 6 ∨ j = 7 := by omega
  all_goals rfl

theorem grown8 {w0 w : World} {sb : Nat} (h : w0.grownBy w (some sb)) (v0 v1 v2 v3 v4 v5 v6 v7 : Value) :
    w0.grownBy ((((((((w.setCell ⟨sb, 0, none⟩ v0).setCell ⟨sb, 1, none⟩ v1).setCell ⟨sb, 2, none⟩ v2).setCell ⟨sb, 3, none⟩ v3).setCell ⟨sb, 4, none⟩ v4).setCell ⟨sb, 5, none⟩ v5).setCell ⟨sb, 6, none⟩ v6).setCell ⟨sb, 7, none⟩ v7) (some sb) :=
  grown_set (grown_set (grown_set (grown_set (grown_set (grown_set (grown_set (grown_set h)))))))

theorem round_cells (f : Nat → Int) (bs : List Int) (k : Nat) {a0 a1 a2 a3 a4 a5 a6 a7 ad wd T U : Int}
    (q0 : rnds f bs k 0 = a0) (q1 : rnds f bs k 1 = a1) (q2 : rnds f bs k 2 = a2) (q3 : rnds f bs k 3 = a3) (q4 : rnds f bs k 4 = a4) (q5 : rnds f bs k 5 = a5) (q6 : rnds f bs k 6 = a6) (q7 : rnds f bs k 7 = a7)
    (qa : addedI.getD k 0 = ad) (qw : schedB bs 64 k = wd)
    (hT : ((a7 + sigmaI a4 6 11 25 + bits .xor .u32 (bits .and .u32 a4 (bits .xor .u32 a5 a6)) a6 + ad) % 4294967296 + wd) % 4294967296 = T)
    (hU : (sigmaI a0 2 13 22 + bits .or .u32 (bits .and .u32 a0 (bits .or .u32 a1 a2)) (bits .and .u32 a1 a2)) % 4294967296 = U) (j : Nat) (hj : j < 8) :
    [Value.int .u32 ((T + U) % 4294967296), .int .u32 a0, .int .u32 a1, .int .u32 a2, .int .u32 ((a3 + T) % 4294967296), .int .u32 a4, .int .u32 a5, .int .u32 a6].getD j (.int .u32 (rnds f bs k j)) = .int .u32 (rnds f bs (k + 1) j) := by
  have eT : tI (rnds f bs k) (addedI.getD k 0) (schedB bs 64 k) = T := by unfold tI; rw [q4, q5, q6, q7, qa, qw]; exact hT
  have eU : uSha (rnds f bs k) = U := by unfold uSha; rw [q0, q1, q2]; exact hU
  have e : rnds f bs (k + 1) j = roundI (rnds f bs k) (addedI.getD k 0) (schedB bs 64 k) j := rfl
  rw [e]
  obtain rfl | rfl | rfl | rfl | rfl | rfl | rfl | rfl : j = 0 ∨ j = 1 ∨ j = 2 ∨ j = 3 ∨ j = 4 ∨ j = 5 ∨ j = 6 ∨ j = 7 := by omega
  all_goals simp only [roundI, eT, eU, q0, q1, q2, q3, q4, q5, q6]
  all_goals rfl

theorem grown_drew {w0 w : World} {row : Option Nat} (h : w0.grownBy w row) : w0.grownBy w.drew row := ⟨h.os, h.tape, h.output, h.size, h.block⟩

theorem add_cells (f : Nat → Int) (bs : List Int) (m j : Nat) :
    (if j = m then Value.int .u32 ((rnds f bs 64 m + f m) % 4294967296) else .int .u32 (if j < m then takeI f bs j else rnds f bs 64 j)) = .int .u32 (if j < m + 1 then takeI f bs j else rnds f bs 64 j) := by
  by_cases h : j = m
  · subst h; rw [if_pos rfl, if_pos (by omega)]; rfl
  · rw [if_neg h]
    by_cases h2 : j < m
    · rw [if_pos h2, if_pos (by omega)]
    · rw [if_neg h2, if_neg (by omega)]

theorem grown_drewN3 {w0 w : World} {row : Option Nat} (h : w0.grownBy w row) (a b c : Nat) : w0.grownBy (((w.drewN a).drewN b).drewN c).drew row := ⟨h.os, h.tape, h.output, h.size, h.block⟩

theorem idxs (w : World) (f : Nat → Int) (k : Nat) (hk : k < 8 := by omega) : (Instr.index 139 (.agg #[.int .u32 (f 0), .int .u32 (f 1), .int .u32 (f 2), .int .u32 (f 3), .int .u32 (f 4), .int .u32 (f 5), .int .u32 (f 6), .int .u32 (f 7)]) (.int .i64 k)).run Tryd.prog w = .ok (.int .u32 (f k)) w := by
  obtain rfl | rfl | rfl | rfl | rfl | rfl | rfl | rfl : k = 0 ∨ k = 1 ∨ k = 2 ∨ k = 3 ∨ k = 4 ∨ k = 5 ∨ k = 6 ∨ k = 7 := by omega
  all_goals kernel_rfl

set_option maxRecDepth 100000 in
set_option maxHeartbeats 4000000 in
theorem take_any (v : Value) (bs : List Int) (sb : Nat) (f : Nat → Int) (w : World) (hl : 64 ≤ bs.length) (hB : ∀ j, 0 ≤ bs.getD j 0 ∧ bs.getD j 0 ≤ 255) (hs : Sl w v (bs.map (Value.int .u8)))
    (hf : ∀ j, 0 ≤ f j ∧ f j ≤ 4294967295) (hr : w.rowIs sb 139 8 (fun j => .int .u32 (f j)))
    (hgb : 2 < w.heap.size) (hgs : ¬ 2 = sb) (hg : ∀ j, j < 64 → w.cell? ⟨2, j, none⟩ = some (.int .u32 (addedI.getD j 0))) :
    Calls Tryd.prog 84 #[.pointer (some ⟨sb, 0, none⟩), v] w fun e w' => e = .returned (.tuple #[]) ∧ w'.rowIs sb 139 8 (fun j => .int .u32 (takeI f bs j)) ∧ w.grownBy w' (some sb) := by
  have hsbl := hr.lt
  go_enter Tryd.func84, Tryd.ntmps84
  go_wp2_with fail
  refine (sched_any v bs w hl hB hs).mono ?_
  rintro e w1 ⟨rfl, hW, hb1⟩
  have hr1 : w1.rowIs sb 139 8 (fun j => .int .u32 (f j)) := hr.of_block (hb1.block sb hr.lt)
  have s0 : w1.cell? ⟨sb, 0, none⟩ = some (.int .u32 (f 0)) := hr1.cell (by omega)
  have s1 : w1.cell? ⟨sb, 1, none⟩ = some (.int .u32 (f 1)) := hr1.cell (by omega)
  have s2 : w1.cell? ⟨sb, 2, none⟩ = some (.int .u32 (f 2)) := hr1.cell (by omega)
  have s3 : w1.cell? ⟨sb, 3, none⟩ = some (.int .u32 (f 3)) := hr1.cell (by omega)
  have s4 : w1.cell? ⟨sb, 4, none⟩ = some (.int .u32 (f 4)) := hr1.cell (by omega)
  have s5 : w1.cell? ⟨sb, 5, none⟩ = some (.int .u32 (f 5)) := hr1.cell (by omega)
  have s6 : w1.cell? ⟨sb, 6, none⟩ = some (.int .u32 (f 6)) := hr1.cell (by omega)
  have s7 : w1.cell? ⟨sb, 7, none⟩ = some (.int .u32 (f 7)) := hr1.cell (by omega)
  go_wp2
  have hbW : w.heap.size < w1.heap.size := hW.lt
  obtain ⟨wa, hwa⟩ : ∃ wa, wa = w1.alloc (.cells #[.int .u32 (f 0), .int .u32 (f 1), .int .u32 (f 2), .int .u32 (f 3), .int .u32 (f 4), .int .u32 (f 5), .int .u32 (f 6), .int .u32 (f 7)] 139) := ⟨_, rfl⟩
  rw [← hwa]
  have hra : wa.rowIs sb 139 8 (fun j => .int .u32 (f j)) := by rw [hwa]; exact hr1.alloc _
  have hsz1 : w1.heap.size < wa.heap.size := by rw [hwa]; simp
  have hwas : wa.rowIs w1.heap.size 139 8 (fun j => .int .u32 (f j)) := by
    rw [hwa]
    exact World.rowIs_alloc w1 _ _ _ (fun i hi => by
      have hi8 : i < 8 := hi
      obtain rfl | rfl | rfl | rfl | rfl | rfl | rfl | rfl : i = 0 ∨ i = 1 ∨ i = 2 ∨ i = 3 ∨ i = 4 ∨ i = 5 ∨ i = 6 ∨ i = 7 := by omega
      all_goals rfl)
  have hW1 : wa.heap[w.heap.size]? = w1.heap[w.heap.size]? := by rw [hwa]; exact Below.heap_alloc _ _ _ hbW
  have hold : ∀ p, p < w.heap.size → ¬ p = sb → ∀ wr, wa.grownBy wr (some sb) → wr.heap[p]? = w.heap[p]? := fun p hp hps wr hgr => by
    rw [hgr.block p (by omega) (by simpa using hps), hwa, Below.heap_alloc _ _ _ (by omega), hb1.block p hp]
  have hga : ∀ wr, wa.grownBy wr (some sb) → w.grownBy wr (some sb) := fun wr hgr =>
    ⟨hgr.os.trans (by rw [hwa]; exact hb1.os), hgr.tape.trans (by rw [hwa]; exact hb1.tape), hgr.output.trans (by rw [hwa]; exact hb1.output), by have := hgr.size; omega, fun p hp hps => hold p hp (by simpa using hps) wr hgr⟩
  clear s0 s1 s2 s3 s4 s5 s6 s7 hr1 hwa
  go_loopw [18] (fun i wr => ∃ k : Nat, k ≤ 64 ∧ i = .int .i64 k ∧ wr.rowIs sb 139 8 (fun j => .int .u32 (rnds f bs k j)) ∧ wa.grownBy wr (some sb)) (fun i _ => 64 - (intOf i).toNat)
  case atStart => exact ⟨0, by omega, rfl, hra, World.grownBy.refl _ _⟩
  case round =>
    obtain ⟨k, hk, rfl, hrr, hgr⟩ := hrel
    by_cases hlt : k < 64
    · have s0 : wr.cell? ⟨sb, 0, none⟩ = some (.int .u32 (rnds f bs k 0)) := hrr.cell (by omega)
      have s1 : wr.cell? ⟨sb, 1, none⟩ = some (.int .u32 (rnds f bs k 1)) := hrr.cell (by omega)
      have s2 : wr.cell? ⟨sb, 2, none⟩ = some (.int .u32 (rnds f bs k 2)) := hrr.cell (by omega)
      have s3 : wr.cell? ⟨sb, 3, none⟩ = some (.int .u32 (rnds f bs k 3)) := hrr.cell (by omega)
      have s4 : wr.cell? ⟨sb, 4, none⟩ = some (.int .u32 (rnds f bs k 4)) := hrr.cell (by omega)
      have s5 : wr.cell? ⟨sb, 5, none⟩ = some (.int .u32 (rnds f bs k 5)) := hrr.cell (by omega)
      have s6 : wr.cell? ⟨sb, 6, none⟩ = some (.int .u32 (rnds f bs k 6)) := hrr.cell (by omega)
      have s7 : wr.cell? ⟨sb, 7, none⟩ = some (.int .u32 (rnds f bs k 7)) := hrr.cell (by omega)
      have g1 : wr.cell? ⟨2, k, none⟩ = some (.int .u32 (addedI.getD k 0)) := by
        rw [World.cell?_of_block (w := w) (a := ⟨2, k, none⟩) (hold _ hgb hgs wr hgr)]; exact hg k hlt
      have g2 : wr.cell? ⟨w.heap.size, k, none⟩ = some (.int .u32 (schedB bs 64 k)) :=
        (hW.of_block (by rw [hgr.block _ (by omega) (by simp; omega)]; exact hW1)).cell hlt
      have bd := fun j => rnds_bd f hf bs k j
      have B0 := bd 0
      have B1 := bd 1
      have B2 := bd 2
      have B3 := bd 3
      have B4 := bd 4
      have B5 := bd 5
      have B6 := bd 6
      have B7 := bd 7
      have BA : 0 ≤ addedI.getD k 0 ∧ addedI.getD k 0 ≤ 4294967295 := addedI_at k
      have BW := schedB_bd bs 64 k
      generalize hA0 : rnds f bs k 0 = a0 at s0 B0
      generalize hA1 : rnds f bs k 1 = a1 at s1 B1
      generalize hA2 : rnds f bs k 2 = a2 at s2 B2
      generalize hA3 : rnds f bs k 3 = a3 at s3 B3
      generalize hA4 : rnds f bs k 4 = a4 at s4 B4
      generalize hA5 : rnds f bs k 5 = a5 at s5 B5
      generalize hA6 : rnds f bs k 6 = a6 at s6 B6
      generalize hA7 : rnds f bs k 7 = a7 at s7 B7
      generalize hAD : addedI.getD k 0 = ad at g1 BA
      generalize hWD : schedB bs 64 k = wd at g2 BW
      have HA := Lib.hid (And.intro hA0 (And.intro hA1 (And.intro hA2 (And.intro hA3 (And.intro hA4 (And.intro hA5 (And.intro hA6 (And.intro hA7 (And.intro hAD hWD)))))))))
      clear hA0 hA1 hA2 hA3 hA4 hA5 hA6 hA7 hAD hWD
      have hkI : (k : Int) < 64 := by omega
      clear bd hra
      go_wp2
      go_quiet (fail)
      obtain ⟨nqa, rfl⟩ : ∃ x : Nat, x = nq := ⟨_, rfl⟩
      go_wp2
      go_quiet ((go_at_call 109; exact quiet_add_left (sigma_any _ _ _ _ (by omega) (by omega) (by omega) (by omega) (by omega) (by omega) (by omega) (by omega) _)))
      obtain ⟨nqb, rfl⟩ : ∃ x : Nat, x = nq := ⟨_, rfl⟩
      go_wp2
      go_quiet ((go_at_call 109; exact quiet_add_left (sigma_any _ _ _ _ (by omega) (by omega) (by omega) (by omega) (by omega) (by omega) (by omega) (by omega) _)))
      obtain ⟨nqc, rfl⟩ : ∃ x : Nat, x = nq := ⟨_, rfl⟩
      go_wp2
      generalize hT : (((a7 + sigmaI a4 6 11 25 + bits BinOp.xor IntKind.u32 (bits BinOp.and IntKind.u32 a4 (bits BinOp.xor IntKind.u32 a5 a6)) a6 + ad) % 4294967296 + wd) % 4294967296) = T
      generalize hU : ((sigmaI a0 2 13 22 + bits BinOp.or IntKind.u32 (bits BinOp.and IntKind.u32 a0 (bits BinOp.or IntKind.u32 a1 a2)) (bits BinOp.and IntKind.u32 a1 a2)) % 4294967296) = U
      have HT := Lib.hid hT
      have HU := Lib.hid hU
      clear hT hU
      obtain ⟨wq, hq⟩ : ∃ wq, wq = ((wr.drewN nqa).drewN nqb).drewN nqc := ⟨_, rfl⟩
      rw [← hq]
      have s0' : wq.cell? ⟨sb, 0, none⟩ = some (.int .u32 a0) := by rw [hq]; exact s0
      have s1' : wq.cell? ⟨sb, 1, none⟩ = some (.int .u32 a1) := by rw [hq]; exact s1
      have s2' : wq.cell? ⟨sb, 2, none⟩ = some (.int .u32 a2) := by rw [hq]; exact s2
      have s3' : wq.cell? ⟨sb, 3, none⟩ = some (.int .u32 a3) := by rw [hq]; exact s3
      have s4' : wq.cell? ⟨sb, 4, none⟩ = some (.int .u32 a4) := by rw [hq]; exact s4
      have s5' : wq.cell? ⟨sb, 5, none⟩ = some (.int .u32 a5) := by rw [hq]; exact s5
      have s6' : wq.cell? ⟨sb, 6, none⟩ = some (.int .u32 a6) := by rw [hq]; exact s6
      have s7' : wq.cell? ⟨sb, 7, none⟩ = some (.int .u32 a7) := by rw [hq]; exact s7
      have HQ := Lib.hid hq
      clear hq s0 s1 s2 s3 s4 s5 s6 s7
      go_still_tail 30, (by kernel_rfl)
      change wpList _ _ _ _ _ wq.drew
      obtain ⟨w2, hw2⟩ : ∃ w2, w2 = wq.drew := ⟨_, rfl⟩
      rw [← hw2]
      have s0 : w2.cell? ⟨sb, 0, none⟩ = some (.int .u32 a0) := by rw [hw2]; exact s0'
      have s1 : w2.cell? ⟨sb, 1, none⟩ = some (.int .u32 a1) := by rw [hw2]; exact s1'
      have s2 : w2.cell? ⟨sb, 2, none⟩ = some (.int .u32 a2) := by rw [hw2]; exact s2'
      have s3 : w2.cell? ⟨sb, 3, none⟩ = some (.int .u32 a3) := by rw [hw2]; exact s3'
      have s4 : w2.cell? ⟨sb, 4, none⟩ = some (.int .u32 a4) := by rw [hw2]; exact s4'
      have s5 : w2.cell? ⟨sb, 5, none⟩ = some (.int .u32 a5) := by rw [hw2]; exact s5'
      have s6 : w2.cell? ⟨sb, 6, none⟩ = some (.int .u32 a6) := by rw [hw2]; exact s6'
      have s7 : w2.cell? ⟨sb, 7, none⟩ = some (.int .u32 a7) := by rw [hw2]; exact s7'
      have fz : ∀ j, w2.frozen? ⟨sb, j, none⟩ = false := fun j => by rw [hw2, HQ.out]; exact hrr.frozen j
      have z0 := fz 0
      have z1 := fz 1
      have z2 := fz 2
      have z3 := fz 3
      have z4 := fz 4
      have z5 := fz 5
      have z6 := fz 6
      have z7 := fz 7
      have hr2 : w2.rowIs sb 139 8 (fun j => .int .u32 (rnds f bs k j)) := by rw [hw2, HQ.out]; exact hrr
      have hg2 : wa.grownBy w2 (some sb) := by rw [hw2, HQ.out]; exact grown_drewN3 hgr _ _ _
      clear hw2 fz s0' s1' s2' s3' s4' s5' s6' s7'
      go_wp2
      go_roundw
      case rel =>
        refine ⟨k + 1, by omega, by go_num, ?_, grown8 hg2 _ _ _ _ _ _ _ _⟩
        refine (eight hr2 _ _ _ _ _ _ _ _).congr fun j hj => ?_
        obtain ⟨q0, q1, q2, q3, q4, q5, q6, q7, qa, qw⟩ := HA.out
        exact round_cells f bs k q0 q1 q2 q3 q4 q5 q6 q7 qa qw HT.out HU.out j hj
      case measure => simp [intOf]; omega
    · have e64 : k = 64 := by omega
      rw [e64] at hrr
      clear e64
      have x0 : wr.rowIs w1.heap.size 139 8 (fun j => .int .u32 (f j)) := hwas.of_block (hgr.block _ (by omega) (by simp; omega))
      have s0 : wr.cell? ⟨w1.heap.size, 0, none⟩ = some (.int .u32 (f 0)) := x0.cell (by omega)
      have s1 : wr.cell? ⟨w1.heap.size, 1, none⟩ = some (.int .u32 (f 1)) := x0.cell (by omega)
      have s2 : wr.cell? ⟨w1.heap.size, 2, none⟩ = some (.int .u32 (f 2)) := x0.cell (by omega)
      have s3 : wr.cell? ⟨w1.heap.size, 3, none⟩ = some (.int .u32 (f 3)) := x0.cell (by omega)
      have s4 : wr.cell? ⟨w1.heap.size, 4, none⟩ = some (.int .u32 (f 4)) := x0.cell (by omega)
      have s5 : wr.cell? ⟨w1.heap.size, 5, none⟩ = some (.int .u32 (f 5)) := x0.cell (by omega)
      have s6 : wr.cell? ⟨w1.heap.size, 6, none⟩ = some (.int .u32 (f 6)) := x0.cell (by omega)
      have s7 : wr.cell? ⟨w1.heap.size, 7, none⟩ = some (.int .u32 (f 7)) := x0.cell (by omega)
      go_wp2
      have hga' := hga wr hgr
      clear s0 s1 s2 s3 s4 s5 s6 s7 x0 hold hga hwas hg hra hgr hW
      obtain ⟨wo, rfl⟩ : ∃ wo : World, wo = wr := ⟨_, rfl⟩
      go_loopw [119] (fun i wr => ∃ k : Nat, k ≤ 8 ∧ i = .int .i64 k ∧ wr.rowIs sb 139 8 (fun j => .int .u32 (if j < k then takeI f bs j else rnds f bs 64 j)) ∧ w.grownBy wr (some sb)) (fun i _ => 8 - (intOf i).toNat)
      case atStart => exact ⟨0, by omega, rfl, hrr.congr fun j _ => by simp, hga'⟩
      case round =>
        clear hrr hga'
        obtain ⟨m, hm, rfl, hrr, hgr⟩ := hrel
        have i0 : ∀ w, (Instr.index 139 (.agg #[.int .u32 (f 0), .int .u32 (f 1), .int .u32 (f 2), .int .u32 (f 3), .int .u32 (f 4), .int .u32 (f 5), .int .u32 (f 6), .int .u32 (f 7)]) (.int .i64 0)).run Tryd.prog w = .ok (.int .u32 (f 0)) w := fun w => idxs w f 0
        have i1 : ∀ w, (Instr.index 139 (.agg #[.int .u32 (f 0), .int .u32 (f 1), .int .u32 (f 2), .int .u32 (f 3), .int .u32 (f 4), .int .u32 (f 5), .int .u32 (f 6), .int .u32 (f 7)]) (.int .i64 1)).run Tryd.prog w = .ok (.int .u32 (f 1)) w := fun w => idxs w f 1
        have i2 : ∀ w, (Instr.index 139 (.agg #[.int .u32 (f 0), .int .u32 (f 1), .int .u32 (f 2), .int .u32 (f 3), .int .u32 (f 4), .int .u32 (f 5), .int .u32 (f 6), .int .u32 (f 7)]) (.int .i64 2)).run Tryd.prog w = .ok (.int .u32 (f 2)) w := fun w => idxs w f 2
        have i3 : ∀ w, (Instr.index 139 (.agg #[.int .u32 (f 0), .int .u32 (f 1), .int .u32 (f 2), .int .u32 (f 3), .int .u32 (f 4), .int .u32 (f 5), .int .u32 (f 6), .int .u32 (f 7)]) (.int .i64 3)).run Tryd.prog w = .ok (.int .u32 (f 3)) w := fun w => idxs w f 3
        have i4 : ∀ w, (Instr.index 139 (.agg #[.int .u32 (f 0), .int .u32 (f 1), .int .u32 (f 2), .int .u32 (f 3), .int .u32 (f 4), .int .u32 (f 5), .int .u32 (f 6), .int .u32 (f 7)]) (.int .i64 4)).run Tryd.prog w = .ok (.int .u32 (f 4)) w := fun w => idxs w f 4
        have i5 : ∀ w, (Instr.index 139 (.agg #[.int .u32 (f 0), .int .u32 (f 1), .int .u32 (f 2), .int .u32 (f 3), .int .u32 (f 4), .int .u32 (f 5), .int .u32 (f 6), .int .u32 (f 7)]) (.int .i64 5)).run Tryd.prog w = .ok (.int .u32 (f 5)) w := fun w => idxs w f 5
        have i6 : ∀ w, (Instr.index 139 (.agg #[.int .u32 (f 0), .int .u32 (f 1), .int .u32 (f 2), .int .u32 (f 3), .int .u32 (f 4), .int .u32 (f 5), .int .u32 (f 6), .int .u32 (f 7)]) (.int .i64 6)).run Tryd.prog w = .ok (.int .u32 (f 6)) w := fun w => idxs w f 6
        have i7 : ∀ w, (Instr.index 139 (.agg #[.int .u32 (f 0), .int .u32 (f 1), .int .u32 (f 2), .int .u32 (f 3), .int .u32 (f 4), .int .u32 (f 5), .int .u32 (f 6), .int .u32 (f 7)]) (.int .i64 7)).run Tryd.prog w = .ok (.int .u32 (f 7)) w := fun w => idxs w f 7
        obtain rfl | rfl | rfl | rfl | rfl | rfl | rfl | rfl | rfl : m = 0 ∨ m = 1 ∨ m = 2 ∨ m = 3 ∨ m = 4 ∨ m = 5 ∨ m = 6 ∨ m = 7 ∨ m = 8 := by omega
        · have c0 : wr.cell? ⟨sb, 0, none⟩ = some (.int .u32 (rnds f bs 64 0)) := hrr.cell (by omega)
          have z0 : wr.frozen? ⟨sb, 0, none⟩ = false := hrr.frozen _
          have b0 := rnds_bd f hf bs 64 0
          have b1 := hf 0
          go_wp2
          go_still_tail 9, (by kernel_rfl)
          change wpList _ _ _ _ _ wr.drew
          obtain ⟨w2, hw2⟩ : ∃ w2, w2 = wr.drew := ⟨_, rfl⟩
          rw [← hw2]
          have c1 : w2.cell? ⟨sb, 0, none⟩ = some (.int .u32 (rnds f bs 64 0)) := by rw [hw2]; exact c0
          have z1 : w2.frozen? ⟨sb, 0, none⟩ = false := by rw [hw2]; exact z0
          have hr2 : w2.rowIs sb 139 8 (fun j => .int .u32 (if j < 0 then takeI f bs j else rnds f bs 64 j)) := by rw [hw2]; exact hrr
          have hg2 : w.grownBy w2 (some sb) := by rw [hw2]; exact grown_drew hgr
          clear hw2 c0 z0 hrr hgr
          go_wp2
          go_roundw
          case rel => exact ⟨1, by omega, rfl, (hr2.set 0 _).congr fun j hj => add_cells f bs 0 j, grown_set hg2⟩
          case measure => simp [intOf]
        · have c0 : wr.cell? ⟨sb, 1, none⟩ = some (.int .u32 (rnds f bs 64 1)) := hrr.cell (by omega)
          have z0 : wr.frozen? ⟨sb, 1, none⟩ = false := hrr.frozen _
          have b0 := rnds_bd f hf bs 64 1
          have b1 := hf 1
          go_wp2
          go_still_tail 9, (by kernel_rfl)
          change wpList _ _ _ _ _ wr.drew
          obtain ⟨w2, hw2⟩ : ∃ w2, w2 = wr.drew := ⟨_, rfl⟩
          rw [← hw2]
          have c1 : w2.cell? ⟨sb, 1, none⟩ = some (.int .u32 (rnds f bs 64 1)) := by rw [hw2]; exact c0
          have z1 : w2.frozen? ⟨sb, 1, none⟩ = false := by rw [hw2]; exact z0
          have hr2 : w2.rowIs sb 139 8 (fun j => .int .u32 (if j < 1 then takeI f bs j else rnds f bs 64 j)) := by rw [hw2]; exact hrr
          have hg2 : w.grownBy w2 (some sb) := by rw [hw2]; exact grown_drew hgr
          clear hw2 c0 z0 hrr hgr
          go_wp2
          go_roundw
          case rel => exact ⟨2, by omega, rfl, (hr2.set 1 _).congr fun j hj => add_cells f bs 1 j, grown_set hg2⟩
          case measure => simp [intOf]
        · have c0 : wr.cell? ⟨sb, 2, none⟩ = some (.int .u32 (rnds f bs 64 2)) := hrr.cell (by omega)
          have z0 : wr.frozen? ⟨sb, 2, none⟩ = false := hrr.frozen _
          have b0 := rnds_bd f hf bs 64 2
          have b1 := hf 2
          go_wp2
          go_still_tail 9, (by kernel_rfl)
          change wpList _ _ _ _ _ wr.drew
          obtain ⟨w2, hw2⟩ : ∃ w2, w2 = wr.drew := ⟨_, rfl⟩
          rw [← hw2]
          have c1 : w2.cell? ⟨sb, 2, none⟩ = some (.int .u32 (rnds f bs 64 2)) := by rw [hw2]; exact c0
          have z1 : w2.frozen? ⟨sb, 2, none⟩ = false := by rw [hw2]; exact z0
          have hr2 : w2.rowIs sb 139 8 (fun j => .int .u32 (if j < 2 then takeI f bs j else rnds f bs 64 j)) := by rw [hw2]; exact hrr
          have hg2 : w.grownBy w2 (some sb) := by rw [hw2]; exact grown_drew hgr
          clear hw2 c0 z0 hrr hgr
          go_wp2
          go_roundw
          case rel => exact ⟨3, by omega, rfl, (hr2.set 2 _).congr fun j hj => add_cells f bs 2 j, grown_set hg2⟩
          case measure => simp [intOf]
        · have c0 : wr.cell? ⟨sb, 3, none⟩ = some (.int .u32 (rnds f bs 64 3)) := hrr.cell (by omega)
          have z0 : wr.frozen? ⟨sb, 3, none⟩ = false := hrr.frozen _
          have b0 := rnds_bd f hf bs 64 3
          have b1 := hf 3
          go_wp2
          go_still_tail 9, (by kernel_rfl)
          change wpList _ _ _ _ _ wr.drew
          obtain ⟨w2, hw2⟩ : ∃ w2, w2 = wr.drew := ⟨_, rfl⟩
          rw [← hw2]
          have c1 : w2.cell? ⟨sb, 3, none⟩ = some (.int .u32 (rnds f bs 64 3)) := by rw [hw2]; exact c0
          have z1 : w2.frozen? ⟨sb, 3, none⟩ = false := by rw [hw2]; exact z0
          have hr2 : w2.rowIs sb 139 8 (fun j => .int .u32 (if j < 3 then takeI f bs j else rnds f bs 64 j)) := by rw [hw2]; exact hrr
          have hg2 : w.grownBy w2 (some sb) := by rw [hw2]; exact grown_drew hgr
          clear hw2 c0 z0 hrr hgr
          go_wp2
          go_roundw
          case rel => exact ⟨4, by omega, rfl, (hr2.set 3 _).congr fun j hj => add_cells f bs 3 j, grown_set hg2⟩
          case measure => simp [intOf]
        · have c0 : wr.cell? ⟨sb, 4, none⟩ = some (.int .u32 (rnds f bs 64 4)) := hrr.cell (by omega)
          have z0 : wr.frozen? ⟨sb, 4, none⟩ = false := hrr.frozen _
          have b0 := rnds_bd f hf bs 64 4
          have b1 := hf 4
          go_wp2
          go_still_tail 9, (by kernel_rfl)
          change wpList _ _ _ _ _ wr.drew
          obtain ⟨w2, hw2⟩ : ∃ w2, w2 = wr.drew := ⟨_, rfl⟩
          rw [← hw2]
          have c1 : w2.cell? ⟨sb, 4, none⟩ = some (.int .u32 (rnds f bs 64 4)) := by rw [hw2]; exact c0
          have z1 : w2.frozen? ⟨sb, 4, none⟩ = false := by rw [hw2]; exact z0
          have hr2 : w2.rowIs sb 139 8 (fun j => .int .u32 (if j < 4 then takeI f bs j else rnds f bs 64 j)) := by rw [hw2]; exact hrr
          have hg2 : w.grownBy w2 (some sb) := by rw [hw2]; exact grown_drew hgr
          clear hw2 c0 z0 hrr hgr
          go_wp2
          go_roundw
          case rel => exact ⟨5, by omega, rfl, (hr2.set 4 _).congr fun j hj => add_cells f bs 4 j, grown_set hg2⟩
          case measure => simp [intOf]
        · have c0 : wr.cell? ⟨sb, 5, none⟩ = some (.int .u32 (rnds f bs 64 5)) := hrr.cell (by omega)
          have z0 : wr.frozen? ⟨sb, 5, none⟩ = false := hrr.frozen _
          have b0 := rnds_bd f hf bs 64 5
          have b1 := hf 5
          go_wp2
          go_still_tail 9, (by kernel_rfl)
          change wpList _ _ _ _ _ wr.drew
          obtain ⟨w2, hw2⟩ : ∃ w2, w2 = wr.drew := ⟨_, rfl⟩
          rw [← hw2]
          have c1 : w2.cell? ⟨sb, 5, none⟩ = some (.int .u32 (rnds f bs 64 5)) := by rw [hw2]; exact c0
          have z1 : w2.frozen? ⟨sb, 5, none⟩ = false := by rw [hw2]; exact z0
          have hr2 : w2.rowIs sb 139 8 (fun j => .int .u32 (if j < 5 then takeI f bs j else rnds f bs 64 j)) := by rw [hw2]; exact hrr
          have hg2 : w.grownBy w2 (some sb) := by rw [hw2]; exact grown_drew hgr
          clear hw2 c0 z0 hrr hgr
          go_wp2
          go_roundw
          case rel => exact ⟨6, by omega, rfl, (hr2.set 5 _).congr fun j hj => add_cells f bs 5 j, grown_set hg2⟩
          case measure => simp [intOf]
        · have c0 : wr.cell? ⟨sb, 6, none⟩ = some (.int .u32 (rnds f bs 64 6)) := hrr.cell (by omega)
          have z0 : wr.frozen? ⟨sb, 6, none⟩ = false := hrr.frozen _
          have b0 := rnds_bd f hf bs 64 6
          have b1 := hf 6
          go_wp2
          go_still_tail 9, (by kernel_rfl)
          change wpList _ _ _ _ _ wr.drew
          obtain ⟨w2, hw2⟩ : ∃ w2, w2 = wr.drew := ⟨_, rfl⟩
          rw [← hw2]
          have c1 : w2.cell? ⟨sb, 6, none⟩ = some (.int .u32 (rnds f bs 64 6)) := by rw [hw2]; exact c0
          have z1 : w2.frozen? ⟨sb, 6, none⟩ = false := by rw [hw2]; exact z0
          have hr2 : w2.rowIs sb 139 8 (fun j => .int .u32 (if j < 6 then takeI f bs j else rnds f bs 64 j)) := by rw [hw2]; exact hrr
          have hg2 : w.grownBy w2 (some sb) := by rw [hw2]; exact grown_drew hgr
          clear hw2 c0 z0 hrr hgr
          go_wp2
          go_roundw
          case rel => exact ⟨7, by omega, rfl, (hr2.set 6 _).congr fun j hj => add_cells f bs 6 j, grown_set hg2⟩
          case measure => simp [intOf]
        · have c0 : wr.cell? ⟨sb, 7, none⟩ = some (.int .u32 (rnds f bs 64 7)) := hrr.cell (by omega)
          have z0 : wr.frozen? ⟨sb, 7, none⟩ = false := hrr.frozen _
          have b0 := rnds_bd f hf bs 64 7
          have b1 := hf 7
          go_wp2
          go_still_tail 9, (by kernel_rfl)
          change wpList _ _ _ _ _ wr.drew
          obtain ⟨w2, hw2⟩ : ∃ w2, w2 = wr.drew := ⟨_, rfl⟩
          rw [← hw2]
          have c1 : w2.cell? ⟨sb, 7, none⟩ = some (.int .u32 (rnds f bs 64 7)) := by rw [hw2]; exact c0
          have z1 : w2.frozen? ⟨sb, 7, none⟩ = false := by rw [hw2]; exact z0
          have hr2 : w2.rowIs sb 139 8 (fun j => .int .u32 (if j < 7 then takeI f bs j else rnds f bs 64 j)) := by rw [hw2]; exact hrr
          have hg2 : w.grownBy w2 (some sb) := by rw [hw2]; exact grown_drew hgr
          clear hw2 c0 z0 hrr hgr
          go_wp2
          go_roundw
          case rel => exact ⟨8, by omega, rfl, (hr2.set 7 _).congr fun j hj => add_cells f bs 7 j, grown_set hg2⟩
          case measure => simp [intOf]
        · go_wp2
          go_end0
          exact ⟨rfl, hrr.congr fun j hj => by rw [if_pos hj], hgr⟩

end Go.Proofs.YtgfkejecigefbaaDoor
