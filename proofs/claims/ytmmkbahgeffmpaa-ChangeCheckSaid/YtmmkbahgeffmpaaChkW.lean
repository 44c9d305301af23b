/- The walk of the law ChangeCheck. -/
import Derived.Test.YtmmkbahgeffmpaaChkA
import Derived.Test.YtmmkbahgeffmpaaChkRef
import Derived.Deep.RegionHeld3
import Derived.Deep.MidRow
namespace Go.Proofs.Ytmmkbahgeffmpaa
open Go.RowKit
set_option linter.unusedVariables false

theorem Blk.rangeAt {w : World} {g : Nat} {t : TypeId} {cs : List Value} (k : Blk w g t cs.toArray) : w.rangeAt g 0 cs := fun j v hv => by
  rw [Nat.zero_add, k.cell j]; simpa using hv

def Par (w' : World) (g : Nat) (p0 p1 p2 p3 p4 p5 p6 p7 : Int) : Prop := w'.cell? ⟨g, 0, none⟩ = some (.int .i64 p0) ∧ w'.cell? ⟨g, 1, none⟩ = some (.int .i64 p1) ∧ w'.cell? ⟨g, 2, none⟩ = some (.int .i64 p2) ∧ w'.cell? ⟨g, 3, none⟩ = some (.int .i64 p3) ∧ w'.cell? ⟨g, 4, none⟩ = some (.int .i64 p4) ∧ w'.cell? ⟨g, 5, none⟩ = some (.int .i64 p5) ∧ w'.cell? ⟨g, 6, none⟩ = some (.int .i64 p6) ∧ w'.cell? ⟨g, 7, none⟩ = some (.int .i64 p7)
theorem Blk.par {w : World} {g : Nat} {p0 p1 p2 p3 p4 p5 p6 p7 : Int} (k : Blk w g 23 #[.int .i64 p0, .int .i64 p1, .int .i64 p2, .int .i64 p3, .int .i64 p4, .int .i64 p5, .int .i64 p6, .int .i64 p7]) : Par w g p0 p1 p2 p3 p4 p5 p6 p7 := ⟨k.cell 0, k.cell 1, k.cell 2, k.cell 3, k.cell 4, k.cell 5, k.cell 6, k.cell 7⟩
def ParL (p0 p1 p2 p3 p4 p5 p6 p7 : Int) : List Value := [.int .i64 p0, .int .i64 p1, .int .i64 p2, .int .i64 p3, .int .i64 p4, .int .i64 p5, .int .i64 p6, .int .i64 p7]

set_option maxRecDepth 100000 in
set_option maxHeartbeats 4000000 in
theorem changeCheck_walk (p0 p1 p2 p3 p4 p5 p6 p7 : Int) (v : Value) (l : List Chg) (w : World) (hB : ∀ p ∈ l, IsB p.1 ∧ IsB p.2) (hs : Bds w v l) :
    Calls Try.prog 3 #[.agg #[.int .i64 p0, .int .i64 p1, .int .i64 p2, .int .i64 p3, .int .i64 p4, .int .i64 p5, .int .i64 p6, .int .i64 p7], v] w fun e w' => e = .returned (.bool true) ∧ Below w.heap.size w w' := by
  have hb1 : Below w.heap.size w (w.alloc (.cells #[.int .i64 p0, .int .i64 p1, .int .i64 p2, .int .i64 p3, .int .i64 p4, .int .i64 p5, .int .i64 p6, .int .i64 p7] 23)) := (Below.refl _ _).alloc (Nat.le_refl _) _
  have kP := Blk.new w 23 #[.int .i64 p0, .int .i64 p1, .int .i64 p2, .int .i64 p3, .int .i64 p4, .int .i64 p5, .int .i64 p6, .int .i64 p7]
  have HF := Lib.hid (few12_any v l _ (hs.below hb1 (Nat.le_refl _)))
  have hBL : ∀ p ∈ l.take 40, IsB p.1 := fun p hp => (hB p (List.mem_of_mem_take hp)).1
  generalize l.take 40 = L at *
  obtain ⟨C, hC⟩ : ∃ C, chkI p2 p3 L = C := ⟨_, rfl⟩
  have HC1 : Hid (∀ v w1, Bds w1 v L → Calls Try.prog 11 #[.agg #[.int .i64 p0, .int .i64 p1, .int .i64 p2, .int .i64 p3, .int .i64 p4, .int .i64 p5, .int .i64 p6, .int .i64 p7], v] w1 fun e w' => e = .returned (.int .i64 C) ∧ Below w1.heap.size w1 w') := fun v w1 h => by
    rw [← hC]; exact check_any p0 p1 p2 p3 p4 p5 p6 p7 v L w1 hBL h
  have HC2 : Hid (∀ v w1, Bds w1 v L → Calls Try.prog 12 #[.agg #[.int .i64 p0, .int .i64 p1, .int .i64 p2, .int .i64 p3, .int .i64 p4, .int .i64 p5, .int .i64 p6, .int .i64 p7], v] w1 fun e w' => e = .returned (.int .i64 C) ∧ Below w1.heap.size w1 w') := fun v w1 h => by
    rw [← hC]; exact refCheck_any p0 p1 p2 p3 p4 p5 p6 p7 v L w1 hBL h
  clear hC
  clear hs hB hBL
  go_enter Try.func3, Try.ntmps3
  go_wp2_with fail
  refine HF.out.mono ?_
  generalize (w.alloc (.cells #[.int .i64 p0, .int .i64 p1, .int .i64 p2, .int .i64 p3, .int .i64 p4, .int .i64 p5, .int .i64 p6, .int .i64 p7] 23)) = w1 at *
  rintro e w1' ⟨v1, rfl, hs1, rfl⟩
  obtain ⟨a, cap, rfl, _, _⟩ := hs1.shape
  have hG : Par w1 w.heap.size p0 p1 p2 p3 p4 p5 p6 p7 := kP.par
  have HG := Lib.hid (fun w2 (h : Below w1.heap.size w1 w2) => (kP.belowS h).par)
  have HS := Lib.hid (fun w2 (h : Below w1.heap.size w1 w2) => hs1.below h (Nat.le_refl _))
  have HGG := Lib.hid hG
  clear hs1 kP hG
  go_wp2
  go_region_held3 (fun w' => w'.cell? ⟨w.heap.size, 0, none⟩ = some (.int .i64 p0) ∧ w'.cell? ⟨w.heap.size, 1, none⟩ = some (.int .i64 p1) ∧ w'.cell? ⟨w.heap.size, 2, none⟩ = some (.int .i64 p2) ∧ w'.cell? ⟨w.heap.size, 3, none⟩ = some (.int .i64 p3) ∧ w'.cell? ⟨w.heap.size, 4, none⟩ = some (.int .i64 p4) ∧ w'.cell? ⟨w.heap.size, 5, none⟩ = some (.int .i64 p5) ∧ w'.cell? ⟨w.heap.size, 6, none⟩ = some (.int .i64 p6) ∧ w'.cell? ⟨w.heap.size, 7, none⟩ = some (.int .i64 p7)) (first | exact HGG.out | exact hG2.out | exact hG3.out | exact hG4.out) (first | (go_at_call 13; refine (awake12_any _).mono ?_; rintro e w4 ⟨rfl, hb4⟩; have hb4 : Below w1.heap.size w1 w4 := below_trans2 hb3 hb4; have hG4 := Lib.hid (HG.out _ hb4)) | (go_at_call 12; refine (HC2.out _ _ (HS.out _ hb2)).mono ?_; rintro e w3 ⟨rfl, hb3⟩; have hb3 : Below w1.heap.size w1 w3 := below_trans2 hb2 hb3; have hG3 := Lib.hid (HG.out _ hb3)) | (go_at_call 11; refine (HC1.out _ _ (HS.out _ (by first | exact Below.refl _ _ | exact (Below.refl _ _).drew))).mono ?_; rintro e w2 ⟨rfl, hb2⟩; have hb2 : Below w1.heap.size w1 w2 := ⟨hb2.os, hb2.tape, hb2.output, hb2.size, hb2.block⟩; have hG2 := Lib.hid (HG.out _ hb2)))
  go_wp2
  go_ret
  exact ⟨rfl, hb1.trans (hb4.mono hb1.size)⟩

end Go.Proofs.Ytmmkbahgeffmpaa
