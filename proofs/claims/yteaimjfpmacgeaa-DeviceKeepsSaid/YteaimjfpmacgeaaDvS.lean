/- Steps of a script: how they read; a step's bytes, as many as a sector has. -/
import Derived.Test.YteaimjfpmacgeaaDvE
import Derived.Test.YteaimjfpmacgeaaMake
namespace Go.Proofs.Yteaimjfpmacgeaa
open Go.RowKit
set_option linter.unusedVariables false

theorem cell3 {w : World} {g : Nat} {t : TypeId} {x0 x1 x2 : Value} (k : Blk w g t #[x0, x1, x2]) :
    w.cell? ⟨g, 0, none⟩ = some x0 ∧ w.cell? ⟨g, 1, none⟩ = some x1 ∧ w.cell? ⟨g, 2, none⟩ = some x2 := ⟨k.cell 0, k.cell 1, k.cell 2⟩
/-- A step: what is done, a number, bytes. -/
abbrev Stp := Int × Int × List Int
def StpV (w : World) (v : Value) (p : Stp) : Prop := ∃ u, v = .agg #[.int .i64 p.1, .int .i64 p.2.1, u] ∧ Sl w u (p.2.2.map (Value.int .u8))
def StpB (p : Stp) : Prop := (-9223372036854775808 ≤ p.1 ∧ p.1 ≤ 9223372036854775807) ∧ (-9223372036854775808 ≤ p.2.1 ∧ p.2.1 ≤ 9223372036854775807) ∧ IsB p.2.2
/-- The value is a slice of steps. -/
def Stps (w : World) (v : Value) (l : List Stp) : Prop :=
  ∃ a cap, v = .slice a l.length cap ∧ l.length ≤ cap ∧ cap ≤ maxLen ∧ (0 < l.length → ∃ b off, a = some ⟨b, off, none⟩ ∧ b < w.heap.size ∧
    ∀ i p, l[i]? = some p → ∃ u, w.cell? ⟨b, off + i * 3, none⟩ = some (.int .i64 p.1) ∧ w.cell? ⟨b, off + i * 3 + 1, none⟩ = some (.int .i64 p.2.1) ∧ w.cell? ⟨b, off + i * 3 + 2, none⟩ = some u ∧ Sl w u (p.2.2.map (Value.int .u8)))
theorem StpV.below {w w' : World} {v : Value} {p : Stp} (h : StpV w v p) {B : Nat} (hb : Below B w w') (hB : w.heap.size ≤ B) : StpV w' v p := by
  obtain ⟨u, rfl, h2⟩ := h
  exact ⟨u, rfl, h2.below hb hB⟩
theorem Stps.below {w w' : World} {v : Value} {l : List Stp} (h : Stps w v l) {B : Nat} (hb : Below B w w') (hB : w.heap.size ≤ B) : Stps w' v l := by
  obtain ⟨a, cap, rfl, h1, h2, h3⟩ := h
  refine ⟨a, cap, rfl, h1, h2, fun hp => ?_⟩
  obtain ⟨b, off, rfl, hlt, hc⟩ := h3 hp
  have := hb.size
  refine ⟨b, off, rfl, by omega, fun i p hi => ?_⟩
  obtain ⟨u, c1, c2, c3, s⟩ := hc i p hi
  exact ⟨u, (hb.cell (p := ⟨b, off + i * 3, none⟩) (by show b < B; omega)).trans c1, (hb.cell (p := ⟨b, off + i * 3 + 1, none⟩) (by show b < B; omega)).trans c2, (hb.cell (p := ⟨b, off + i * 3 + 2, none⟩) (by show b < B; omega)).trans c3, s.below hb hB⟩
theorem Stps.shape {w : World} {v : Value} {l : List Stp} (h : Stps w v l) : ∃ a cap, v = .slice a l.length cap ∧ l.length ≤ cap ∧ cap ≤ 9223372036854775807 := by
  obtain ⟨a, cap, rfl, h1, h2, _⟩ := h
  exact ⟨a, cap, rfl, h1, h2⟩
theorem Stps.nil (w : World) : Stps w (.slice none 0 0) [] := ⟨none, 0, rfl, by simp, by unfold maxLen; omega, by simp⟩
/-- Where an element lies, and how its cells read. -/
theorem Stps.at {w : World} {a : Option Addr} {n cap : Nat} {l : List Stp} (h : Stps w (.slice a n cap) l) {k : Nat} (hk : k < l.length) :
    ∃ b off, a = some ⟨b, off, none⟩ ∧ b < w.heap.size ∧ ∃ u, w.cell? ⟨b, off + k * 3, none⟩ = some (.int .i64 l[k].1) ∧ w.cell? ⟨b, off + k * 3 + 1, none⟩ = some (.int .i64 l[k].2.1) ∧ w.cell? ⟨b, off + k * 3 + 2, none⟩ = some u ∧ Sl w u (l[k].2.2.map (Value.int .u8)) := by
  obtain ⟨a', cap', h0, h1, h2, h3⟩ := h
  cases h0
  obtain ⟨b, off, rfl, hlt, hc⟩ := h3 (by omega)
  obtain ⟨u, c⟩ := hc k _ (List.getElem?_eq_getElem hk)
  exact ⟨b, off, rfl, hlt, u, c⟩

def z64 : Array Value := Array.replicate 64 (Value.int .u8 0)
theorem run_make64 (w : World) : (Instr.makeSlice 29 (.int .i64 64) (.int .i64 64)).run Try.prog w = .ok (.slice (some ⟨w.heap.size, 0, none⟩) 64 64) (w.alloc (.cells z64 5)) := by
  have h := run_make_row' (P := Try.prog) 29 5 (.int .u8 0) 1 Try.underlying29 (by kernel_rfl) rfl .i64 .i64 64 (by omega) (by omega) w
  have e : madeCells #[.int .u8 0] 64 = z64 := by
    apply Array.ext'
    rw [toList_madeCells_one]
    simp [z64]
  rw [e] at h
  exact h
theorem OB.ofBlk {w : World} {g base : Nat} {bs : List Int} {n : Nat} (h : Blk w g 5 (bs.map (Value.int .u8)).toArray) (hn : bs.length = n) (hm : n ≤ 140737488351232) (hg : base ≤ g) : OB w base (.slice (some ⟨g, 0, none⟩) n n) bs := by
  unfold OB
  subst hn
  refine ⟨by simp, .inr ⟨g, bs.length, _, rfl, hg, h, Nat.le_refl _, by unfold maxLen; omega, by simp, ?_⟩⟩
  rw [Nat.mul_one, List.take_of_length_le (by simp)]

set_option maxRecDepth 100000 in
set_option maxHeartbeats 400000 in
theorem full_any (op i : Int) (v : Value) (bs : List Int) (w : World) (hs : Sl w v (bs.map (Value.int .u8))) :
    Calls Try.prog 12 #[.agg #[.int .i64 op, .int .i64 i, v]] w fun e w' => ∃ x, e = .returned x ∧ OB w' w.heap.size x (padTo 64 bs) ∧ Below w.heap.size w w' := by
  obtain ⟨va, vn, vc, rfl⟩ := hs.val
  have hbA : Below w.heap.size w (w.alloc (.cells #[.int .i64 op, .int .i64 i, .slice va vn vc] 36)) := (Below.refl _ _).alloc (Nat.le_refl _) _
  have kA := Blk.new w 36 #[.int .i64 op, .int .i64 i, .slice va vn vc]
  have hbB := hbA.alloc hbA.size (.cells z64 5)
  have kB := Blk.new (w.alloc (.cells #[.int .i64 op, .int .i64 i, .slice va vn vc] 36)) 5 z64
  have c2 : ((w.alloc (.cells #[.int .i64 op, .int .i64 i, .slice va vn vc] 36)).alloc (.cells z64 5)).cell? ⟨w.heap.size, 2, none⟩ = some (.slice va vn vc) := (kA.alloc _).cell 2
  have hsB := hs.below hbB (Nat.le_refl _)
  rw [World.size_alloc] at kB
  have KB := Lib.hid (show Blk _ _ 5 (Array.replicate 64 (Value.int .u8 0)) from kB)
  have hmk := run_make64
  have HL := Lib.hid (padTo_len 64 bs)
  clear hs kA hbA
  go_enter Try.func12, Try.ntmps12
  go_wp2_with (with_reducible refine wpList_copy_pad rfl _ _ rfl (w.heap.size + 1) 64 64 rfl (.slice va vn vc) bs rfl hsB KB.out w.heap.size w hbB (by omega) ?_)
  intro w3 kk hk1 hb1
  have hx := OB.ofBlk (base := w.heap.size) hk1.out HL.out (by omega) (by omega)
  clear hk1 kB hbB hsB c2
  go_wp2
  go_ret
  exact ⟨_, rfl, hx, hb1⟩

end Go.Proofs.Yteaimjfpmacgeaa
