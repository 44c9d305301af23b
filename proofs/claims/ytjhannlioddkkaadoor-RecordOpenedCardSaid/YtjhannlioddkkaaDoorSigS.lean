
/- Signatures: Same of the reference, of two of one content. -/
import Derived.Test.YtjhannlioddkkaaDoorSig1
import Derived.Test.YtjhannlioddkkaaDoorBytes
import Derived.Deep.QuietTactic
import Derived.BigQuiet
import Derived.Deep.Cut
namespace Go.Proofs.YtjhannlioddkkaaDoor
open Go.RowKit
set_option linter.unusedVariables false

theorem Sl.convS {w : World} {v : Value} {xs : List Int} (h : Sl w v (xs.map (Value.int .u8))) : ∀ n, (convert 25 9 v).run Tryd.prog (w.drewN n) = .ok (.string (strOfNums xs)) (w.drewN n) :=
  fun n => (h.below (below_drewN (Below.refl w.heap.size w) n) (Nat.le_refl _)).conv

set_option maxRecDepth 100000 in
set_option maxHeartbeats 2000000 in
theorem ssame_any (v1 v2 : Value) (idx : Int) (parts path : List (List Int)) (w : World) (h1 : SigV w v1 idx parts path) (h2 : SigV w v2 idx parts path) :
    Calls Tryd.prog 12 #[v1, v2] w fun e w' => e = .returned (.bool true) ∧ Below w.heap.size w w' := by
  obtain ⟨p1, q1, r1, s1, rfl⟩ := h1.val
  obtain ⟨p2, q2, r2, s2, rfl⟩ := h2.val
  obtain ⟨g1, g2⟩ := h1.parts
  obtain ⟨g3, g4⟩ := h2.parts
  have hb2 : Below w.heap.size w ((w.alloc (.cells #[.int .i64 idx, .slice p1 parts.length q1, .slice r1 path.length s1] 24)).alloc (.cells #[.int .i64 idx, .slice p2 parts.length q2, .slice r2 path.length s2] 24)) := ((Below.refl _ _).alloc (Nat.le_refl _) _).alloc (by simp) _
  have b1 : Blk ((w.alloc (.cells #[.int .i64 idx, .slice p1 parts.length q1, .slice r1 path.length s1] 24)).alloc (.cells #[.int .i64 idx, .slice p2 parts.length q2, .slice r2 path.length s2] 24)) w.heap.size 24 #[.int .i64 idx, .slice p1 parts.length q1, .slice r1 path.length s1] := (Blk.new w _ _).alloc _
  have b2 : Blk ((w.alloc (.cells #[.int .i64 idx, .slice p1 parts.length q1, .slice r1 path.length s1] 24)).alloc (.cells #[.int .i64 idx, .slice p2 parts.length q2, .slice r2 path.length s2] 24)) (w.heap.size + 1) 24 #[.int .i64 idx, .slice p2 parts.length q2, .slice r2 path.length s2] := by
    have := Blk.new (w.alloc (.cells #[.int .i64 idx, .slice p1 parts.length q1, .slice r1 path.length s1] 24)) 24 #[.int .i64 idx, .slice p2 parts.length q2, .slice r2 path.length s2]
    simpa using this
  have hpl : parts.length ≤ 9223372036854775807 := by obtain ⟨_, _, _, h3, h4⟩ := g1.shape; exact Nat.le_trans h3 h4
  have hql : path.length ≤ 9223372036854775807 := by obtain ⟨_, _, _, h3, h4⟩ := g2.shape; exact Nat.le_trans h3 h4
  have HG1 := Lib.hid (g1.below hb2 (Nat.le_refl _))
  have HG2 := Lib.hid (g2.below hb2 (Nat.le_refl _))
  have HG3 := Lib.hid (g3.below hb2 (Nat.le_refl _))
  have HG4 := Lib.hid (g4.below hb2 (Nat.le_refl _))
  have HB1 := Lib.hid b1
  have HB2 := Lib.hid b2
  have HBB := Lib.hid hb2
  clear h1 h2 g1 g2 g3 g4 b1 b2 hb2
  go_enter Tryd.func12, Tryd.ntmps12
  go_upto_region 1 with (fail)
  generalize ((w.alloc (.cells #[.int .i64 idx, .slice p1 parts.length q1, .slice r1 path.length s1] 24)).alloc (.cells #[.int .i64 idx, .slice p2 parts.length q2, .slice r2 path.length s2] 24)) = W at *
  obtain ⟨c0, c1, c2⟩ := rec3 HB1.out
  obtain ⟨e0, e1, e2⟩ := rec3 HB2.out
  have HST := Lib.hid (Below.refl W.heap.size W)
  go_wp2
  go_loopw [33] (fun i wr => ∃ k : Nat, k ≤ parts.length ∧ i = .int .i64 k ∧ Below W.heap.size W wr) (fun i _ => parts.length - (intOf i).toNat)
  case atStart => exact ⟨0, by omega, rfl, HST.out⟩
  case round =>
    clear c0 c1 c2 e0 e1 e2
    obtain ⟨k, hk, rfl, hbr⟩ := hrel
    by_cases hlt : k < parts.length
    · obtain ⟨b1, o1, rfl, hb1, u1, k1, t1⟩ := (HG1.out.below hbr (Nat.le_refl _)).at hlt
      obtain ⟨b2, o2, rfl, hb2, u2, k2, t2⟩ := (HG3.out.below hbr (Nat.le_refl _)).at hlt
      have hkI : (k : Int) < (parts.length : Int) := by omega
      have c9 := (rec3 (HB1.out.belowS hbr)).2.1
      have e9 := (rec3 (HB2.out.belowS hbr)).2.1
      have HBR := Lib.hid hbr
      generalize parts.getD k [] = P at *
      have cv1 := t1.convS
      have cv2 := t2.convS
      obtain ⟨xa, xn, xc, rfl⟩ := t1.val
      obtain ⟨ya, yn, yc, rfl⟩ := t2.val
      clear t1 t2 hbr
      go_wp2
      go_quiet (fail)
      have hbr := below_drewN HBR.out nq
      generalize wr.drewN nq = w2 at *
      go_wp2
      go_roundw
      case rel => exact ⟨k + 1, by omega, by go_num, hbr⟩
      case measure => simp [intOf]; omega
    · have hkI : ¬ (k : Int) < (parts.length : Int) := by omega
      generalize wr = wz at *
      obtain ⟨c0, c1, c2⟩ := rec3 (HB1.out.belowS hbr)
      obtain ⟨e0, e1, e2⟩ := rec3 (HB2.out.belowS hbr)
      have HST := Lib.hid hbr
      clear hbr hk hlt
      go_wp2
      go_loopw [53] (fun i wr => ∃ k : Nat, k ≤ path.length ∧ i = .int .i64 k ∧ Below W.heap.size W wr) (fun i _ => path.length - (intOf i).toNat)
      case atStart => exact ⟨0, by omega, rfl, HST.out⟩
      case round =>
        clear c0 c1 c2 e0 e1 e2
        obtain ⟨m, hk, rfl, hbr⟩ := hrel
        by_cases hlt : m < path.length
        · obtain ⟨b1, o1, rfl, hb1, u1, k1, t1⟩ := (HG2.out.below hbr (Nat.le_refl _)).at hlt
          obtain ⟨b2, o2, rfl, hb2, u2, k2, t2⟩ := (HG4.out.below hbr (Nat.le_refl _)).at hlt
          have hkI : (m : Int) < (path.length : Int) := by omega
          have c9 := (rec3 (HB1.out.belowS hbr)).2.2
          have e9 := (rec3 (HB2.out.belowS hbr)).2.2
          have HBR := Lib.hid hbr
          generalize path.getD m [] = P at *
          have cv1 := t1.convS
          have cv2 := t2.convS
          obtain ⟨xa, xn, xc, rfl⟩ := t1.val
          obtain ⟨ya, yn, yc, rfl⟩ := t2.val
          clear t1 t2 hbr
          go_wp2
          go_quiet (fail)
          have hbr := below_drewN HBR.out nq
          generalize wr.drewN nq = w2 at *
          go_wp2
          go_roundw
          case rel => exact ⟨m + 1, by omega, by go_num, hbr⟩
          case measure => simp [intOf]; omega
        · have hkI2 : ¬ (m : Int) < (path.length : Int) := by omega
          have hbb := below_trans2 HBB.out hbr
          clear hbr
          go_wp2
          go_ret
          exact ⟨rfl, hbb⟩

end Go.Proofs.YtjhannlioddkkaaDoor
