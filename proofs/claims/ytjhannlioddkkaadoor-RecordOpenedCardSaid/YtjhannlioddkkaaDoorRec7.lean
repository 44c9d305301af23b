
/- Records: Same, of two of one content. -/
import Derived.Test.YtjhannlioddkkaaDoorRec6
import Derived.BigQuiet
import Derived.Deep.Cut
import Derived.Deep.QuietTactic
namespace Go.Proofs.YtjhannlioddkkaaDoor
open Go.RowKit
set_option linter.unusedVariables false

theorem Sl.convM {w : World} {v : Value} {xs : List Int} (h : Sl w v (xs.map (Value.int .u8))) : ∀ n, (convert 25 9 v).run Tryd.prog (w.drewN n) = .ok (.string (strOfNums xs)) (w.drewN n) :=
  fun n => (h.below (below_drewN (Below.refl w.heap.size w) n) (Nat.le_refl _)).conv

set_option maxHeartbeats 2000000 in
theorem rsame_any (v1 v2 : Value) (ep ti : Int) (tr : List Int) (co : Int) (li : List Int) (ln : List (List Int)) (w : World) (hr1 : RecV w v1 ep ti tr co li ln) (hr2 : RecV w v2 ep ti tr co li ln) :
    Calls Tryd.prog 21 #[v1, v2] w fun e w' => e = .returned (.bool true) ∧ Below w.heap.size w w' := by
  obtain ⟨vt1, vl1, vk1, rfl, t1, l1, k1⟩ := hr1
  obtain ⟨vt2, vl2, vk2, rfl, t2, l2, k2⟩ := hr2
  obtain ⟨t1a, t1n, t1c, rfl⟩ := t1.val
  obtain ⟨t2a, t2n, t2c, rfl⟩ := t2.val
  obtain ⟨l1a, l1n, l1c, rfl⟩ := l1.val
  obtain ⟨l2a, l2n, l2c, rfl⟩ := l2.val
  obtain ⟨k1a, k1c, rfl, hk1c, hk1m⟩ := k1.shape
  obtain ⟨k2a, k2c, rfl, hk2c, hk2m⟩ := k2.shape
  have hb2 : Below w.heap.size w ((w.alloc (.cells #[.int .i64 ep, .int .i64 ti, .slice t1a t1n t1c, .int .i64 co, .slice l1a l1n l1c, .slice k1a ln.length k1c] 35)).alloc (.cells #[.int .i64 ep, .int .i64 ti, .slice t2a t2n t2c, .int .i64 co, .slice l2a l2n l2c, .slice k2a ln.length k2c] 35)) := ((Below.refl _ _).alloc (Nat.le_refl _) _).alloc (by simp) _
  have b1 := (Blk.new w 35 #[.int .i64 ep, .int .i64 ti, .slice t1a t1n t1c, .int .i64 co, .slice l1a l1n l1c, .slice k1a ln.length k1c]).alloc (.cells #[.int .i64 ep, .int .i64 ti, .slice t2a t2n t2c, .int .i64 co, .slice l2a l2n l2c, .slice k2a ln.length k2c] 35)
  have b2 : Blk ((w.alloc (.cells #[.int .i64 ep, .int .i64 ti, .slice t1a t1n t1c, .int .i64 co, .slice l1a l1n l1c, .slice k1a ln.length k1c] 35)).alloc (.cells #[.int .i64 ep, .int .i64 ti, .slice t2a t2n t2c, .int .i64 co, .slice l2a l2n l2c, .slice k2a ln.length k2c] 35)) (w.heap.size + 1) 35 #[.int .i64 ep, .int .i64 ti, .slice t2a t2n t2c, .int .i64 co, .slice l2a l2n l2c, .slice k2a ln.length k2c] := by
    have := Blk.new (w.alloc (.cells #[.int .i64 ep, .int .i64 ti, .slice t1a t1n t1c, .int .i64 co, .slice l1a l1n l1c, .slice k1a ln.length k1c] 35)) 35 #[.int .i64 ep, .int .i64 ti, .slice t2a t2n t2c, .int .i64 co, .slice l2a l2n l2c, .slice k2a ln.length k2c]
    simpa using this
  have ct1 := (t1.below hb2 (Nat.le_refl _)).conv
  have ct2 := (t2.below hb2 (Nat.le_refl _)).conv
  have cl1 := (l1.below hb2 (Nat.le_refl _)).conv
  have cl2 := (l2.below hb2 (Nat.le_refl _)).conv
  have HK1 := Lib.hid (k1.below hb2 (Nat.le_refl _))
  have HK2 := Lib.hid (k2.below hb2 (Nat.le_refl _))
  have HB1 := Lib.hid b1
  have HB2 := Lib.hid b2
  have HBB := Lib.hid hb2
  clear t1 t2 l1 l2 k1 k2 b1 b2 hb2
  go_enter Tryd.func21, Tryd.ntmps21
  go_upto_region 1 with (fail)
  generalize ((w.alloc (.cells #[.int .i64 ep, .int .i64 ti, .slice t1a t1n t1c, .int .i64 co, .slice l1a l1n l1c, .slice k1a ln.length k1c] 35)).alloc (.cells #[.int .i64 ep, .int .i64 ti, .slice t2a t2n t2c, .int .i64 co, .slice l2a l2n l2c, .slice k2a ln.length k2c] 35)) = W at *
  obtain ⟨c0, c1, c2, c3, c4, c5⟩ := rec6 HB1.out
  obtain ⟨e0, e1, e2, e3, e4, e5⟩ := rec6 HB2.out
  go_wp2
  go_loopw [55] (fun i wr => ∃ k : Nat, k ≤ ln.length ∧ i = .int .i64 k ∧ Below W.heap.size W wr) (fun i _ => ln.length - (intOf i).toNat)
  case atStart => exact ⟨0, by omega, rfl, Below.refl _ _⟩
  case round =>
    clear c0 c1 c2 c3 c4 c5 e0 e1 e2 e3 e4 e5 ct1 ct2 cl1 cl2
    obtain ⟨k, hk, rfl, hbr⟩ := hrel
    by_cases hlt : k < ln.length
    · obtain ⟨b1, o1, rfl, hb1, u1, k1, s1⟩ := (HK1.out.below hbr (Nat.le_refl _)).at hlt
      obtain ⟨b2, o2, rfl, hb2, u2, k2, s2⟩ := (HK2.out.below hbr (Nat.le_refl _)).at hlt
      have hkI : (k : Int) < (ln.length : Int) := by omega
      have c5 := (rec6 (HB1.out.belowS hbr)).2.2.2.2.2
      have e5 := (rec6 (HB2.out.belowS hbr)).2.2.2.2.2
      have HBR := Lib.hid hbr
      generalize ln.getD k [] = P at *
      have cv1 := s1.convM
      have cv2 := s2.convM
      obtain ⟨xa, xn, xc, rfl⟩ := s1.val
      obtain ⟨ya, yn, yc, rfl⟩ := s2.val
      clear s1 s2 hbr
      go_wp2
      go_quiet (fail)
      have hbr := below_drewN HBR.out nq
      generalize wr.drewN nq = w2 at *
      go_wp2
      go_roundw
      case rel => exact ⟨k + 1, by omega, by go_num, hbr⟩
      case measure => simp [intOf]; omega
    · have hkI : ¬ (k : Int) < (ln.length : Int) := by omega
      have hbb := below_trans2 HBB.out hbr
      clear hbr
      go_wp2
      go_ret
      exact ⟨rfl, hbb⟩

end Go.Proofs.YtjhannlioddkkaaDoor
