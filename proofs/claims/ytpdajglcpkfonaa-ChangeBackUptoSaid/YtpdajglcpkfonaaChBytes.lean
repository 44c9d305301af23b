/- The walk of the law ChangeBytes. -/
import Derived.Test.YtpdajglcpkfonaaBackP
import Derived.Test.YtpdajglcpkfonaaReadR
import Derived.Test.YtpdajglcpkfonaaSameB
import Derived.Test.YtpdajglcpkfonaaWriteR
import Derived.Test.YtpdajglcpkfonaaBClone
import Derived.Test.YtpdajglcpkfonaaChkA
namespace Go.Proofs.Ytpdajglcpkfonaa
open Go.RowKit
set_option linter.unusedVariables false

theorem par8 {w : World} {g : Nat} {p0 p1 p2 p3 p4 p5 p6 p7 : Int} (k : Blk w g 49 #[.int .i64 p0, .int .i64 p1, .int .i64 p2, .int .i64 p3, .int .i64 p4, .int .i64 p5, .int .i64 p6, .int .i64 p7]) :
    w.cell? ⟨g, 0, none⟩ = some (.int .i64 p0) ∧ w.cell? ⟨g, 1, none⟩ = some (.int .i64 p1) ∧ w.cell? ⟨g, 2, none⟩ = some (.int .i64 p2) ∧ w.cell? ⟨g, 3, none⟩ = some (.int .i64 p3) ∧ w.cell? ⟨g, 4, none⟩ = some (.int .i64 p4) ∧ w.cell? ⟨g, 5, none⟩ = some (.int .i64 p5) ∧ w.cell? ⟨g, 6, none⟩ = some (.int .i64 p6) ∧ w.cell? ⟨g, 7, none⟩ = some (.int .i64 p7) :=
  ⟨k.cell 0, k.cell 1, k.cell 2, k.cell 3, k.cell 4, k.cell 5, k.cell 6, k.cell 7⟩

set_option maxHeartbeats 2000000 in
theorem changeBytes_walk (p0 p1 p2 p3 p4 p5 p6 p7 : Int) (vl : Value) (l0 : List Chg) (v : Value) (bs : List Int) (w : World) (hL0 : ∀ p ∈ l0, p.1.length ≤ 1048576 ∧ p.2.length ≤ 1048576) (hP0 : ∀ p ∈ l0, IsB p.1 ∧ IsB p.2) (hl0 : Bds w vl l0)
    (hn : bs.length ≤ 1048576) (hB : IsB bs) (hs : Sl w v (bs.map (Value.int .u8))) :
    Calls Try.prog 7 #[.agg #[.int .i64 p0, .int .i64 p1, .int .i64 p2, .int .i64 p3, .int .i64 p4, .int .i64 p5, .int .i64 p6, .int .i64 p7], vl, v] w fun e w' => e = .returned (.bool true) ∧ Below w.heap.size w w' := by
  have HN := Lib.hid hn
  have hb1 : Below w.heap.size w (w.alloc (.cells #[.int .i64 p0, .int .i64 p1, .int .i64 p2, .int .i64 p3, .int .i64 p4, .int .i64 p5, .int .i64 p6, .int .i64 p7] 49)) := (Below.refl _ _).alloc (Nat.le_refl _) _
  have kP := Blk.new w 49 #[.int .i64 p0, .int .i64 p1, .int .i64 p2, .int .i64 p3, .int .i64 p4, .int .i64 p5, .int .i64 p6, .int .i64 p7]
  have hs1 := hs.below hb1 (Nat.le_refl _)
  have hl1 := hl0.below hb1 (Nat.le_refl _)
  clear hn hs hl0
  go_enter Try.func7, Try.ntmps7
  go_wp2_with fail
  generalize (w.alloc (.cells #[.int .i64 p0, .int .i64 p1, .int .i64 p2, .int .i64 p3, .int .i64 p4, .int .i64 p5, .int .i64 p6, .int .i64 p7] 49)) = w1 at *
  refine (few12_any vl l0 w1 hl1).mono ?_
  rintro e w0 ⟨u, rfl, hl, rfl⟩
  have hL : ∀ p ∈ l0.take 40, p.1.length ≤ 1048576 ∧ p.2.length ≤ 1048576 := fun p hp => hL0 p (List.mem_of_mem_take hp)
  have hP : ∀ p ∈ l0.take 40, IsB p.1 ∧ IsB p.2 := fun p hp => hP0 p (List.mem_of_mem_take hp)
  have h40 : (l0.take 40).length ≤ 40 := by rw [List.length_take]; omega
  generalize l0.take 40 = l at *
  have HWL := Lib.hid (writeTo_len bs l h40 hL)
  have HWB := Lib.hid (writeTo_isB bs l hB h40 hL hP)
  have H40 := Lib.hid h40
  clear hL0 hP0 hl1 hL h40
  go_wp2_with fail
  refine (bclone_any v bs w1 (by have := HN.out; omega) hs1).mono ?_
  rintro e w2 ⟨v1, rfl, hv1, hb2⟩
  have hs2 := hs1.below hb2 (Nat.le_refl _)
  have hl2 := hl.below hb2 (Nat.le_refl _)
  have kP2 := kP.belowS hb2
  have hbr := hb1.trans (hb2.mono hb1.size)
  obtain ⟨c0, c1, c2, c3, c4, c5, c6, c7⟩ := par8 kP2
  clear hs1 hl kP hb1 hb2
  go_wp2_with fail
  refine (cread_any p0 p1 p2 p3 p4 p5 p6 p7 v1 bs w2 (by have := HN.out; omega) hB hv1).mono ?_
  rintro e w3 ⟨x1, r1, rfl, hx1, hr1, hb3⟩
  have hs3 := hs2.below hb3 (Nat.le_refl _)
  have hv3 := hv1.below hb3 (Nat.le_refl _)
  have hl3 := hl2.below hb3 (Nat.le_refl _)
  have kP3 := kP2.belowS hb3
  have hbr := hbr.trans (hb3.mono hbr.size)
  clear c0 c1 c2 c3 c4 c5 c6 c7
  obtain ⟨c0, c1, c2, c3, c4, c5, c6, c7⟩ := par8 kP3
  clear hs2 hv1 hl2 kP2 hb3
  go_wp2_with fail
  refine (refRead_any p0 p1 p2 p3 p4 p5 p6 p7 v bs w3 (by have := HN.out; omega) hB hs3).mono ?_
  rintro e w4 ⟨x2, r2, rfl, hx2, hr2, hb4⟩
  have HX1 := Lib.hid (hx1.below hb4 (Nat.le_refl _))
  have HR1 := Lib.hid (hr1.below hb4 (Nat.le_refl _))
  have hs4 := hs3.below hb4 (Nat.le_refl _)
  have hv4 := hv3.below hb4 (Nat.le_refl _)
  have hl4 := hl3.below hb4 (Nat.le_refl _)
  have hbr := hbr.trans (hb4.mono hbr.size)
  have hRB := readS_isB p2 p3 bs hB
  generalize readS p2 p3 bs = R at *
  obtain ⟨L, rest, er⟩ := R
  simp only at HX1 HR1 hx2 hr2 hRB
  clear c0 c1 c2 c3 c4 c5 c6 c7 kP3 hx1 hr1 hs3 hv3 hl3 hb4
  have HSM := Lib.hid (sameB_any x1 x2 L L w4 hRB.1 hRB.1 HX1.out hx2)
  rw [decide_eq_true rfl] at HSM
  clear hx2
  go_wp2_with fail
  refine HSM.out.mono ?_
  rintro e w5 ⟨rfl, hb5⟩
  have hr1 := HR1.out.below hb5 (Nat.le_refl _)
  have hr2 := hr2.below hb5 (Nat.le_refl _)
  have hs5 := hs4.below hb5 (Nat.le_refl _)
  have hv5 := hv4.below hb5 (Nat.le_refl _)
  have hl5 := hl4.below hb5 (Nat.le_refl _)
  have hbr := hbr.trans (hb5.mono hbr.size)
  have HEQ := Lib.hid (bytesEq_same r1 r2 rest w5 hr1 hr2 hRB.2)
  clear hs4 hv4 hl4 hb5 hr1 hr2 HR1 HX1 HSM
  go_wp2_with fail
  refine HEQ.out.mono ?_
  rintro e w6 ⟨rfl, rfl⟩
  have HW1 := Lib.hid (write_any v1 bs u l w5 (Nat.le_trans H40.out (by decide)) (by have h1 := HWL.out; have h2 := HN.out; omega) hv5 hl5)
  clear HEQ
  go_wp2_with fail
  refine HW1.out.mono ?_
  rintro e w7 ⟨y1, rfl, ho1, hb7⟩
  have hy1 := Sl.of_owns ho1
  have hs7 := hs5.below hb7 (Nat.le_refl _)
  have hv7 := hv5.below hb7 (Nat.le_refl _)
  have hl7 := hl5.below hb7 (Nat.le_refl _)
  have hbr := hbr.trans (hb7.mono hbr.size)
  have HW2 := Lib.hid (refWrite_any v bs u l w7 (Nat.le_trans H40.out (by decide)) (by have h1 := HWL.out; have h2 := HN.out; omega) hs7 hl7)
  clear HW1 ho1 hs5 hv5 hl5 hb7
  go_wp2_with fail
  refine HW2.out.mono ?_
  rintro e w8 ⟨y2, rfl, ho2, hb8⟩
  have hy2 := Sl.of_owns ho2
  have hy1 := hy1.below hb8 (Nat.le_refl _)
  have hs8 := hs7.below hb8 (Nat.le_refl _)
  have hv8 := hv7.below hb8 (Nat.le_refl _)
  have hbr := hbr.trans (hb8.mono hbr.size)
  have HE2 := Lib.hid (bytesEq_same y1 y2 _ w8 hy1 hy2 HWB.out)
  have HE3 := Lib.hid (bytesEq_same v1 v bs w8 hv8 hs8 hB)
  clear HW2 ho2 hs7 hv7 hl7 hb8 hy1 hy2 hs8 hv8
  go_wp2_with fail
  refine HE2.out.mono ?_
  rintro e w9 ⟨rfl, rfl⟩
  go_wp2_with fail
  refine HE3.out.mono ?_
  rintro e w9 ⟨rfl, rfl⟩
  go_wp2_with fail
  refine (awake12_any _).mono ?_
  rintro e w10 ⟨rfl, hb10⟩
  have hbr := hbr.trans (hb10.mono hbr.size)
  go_wp2
  go_ret
  exact ⟨rfl, hbr⟩

end Go.Proofs.Ytpdajglcpkfonaa
