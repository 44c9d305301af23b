/- A batch written: the reference's walk. -/
import Derived.Test.YtpdajglcpkfonaaWrite
import Derived.Deep.RegionHeld3
namespace Go.Proofs.Ytpdajglcpkfonaa
open Go.RowKit
set_option linter.unusedVariables false

set_option maxRecDepth 100000 in
set_option maxHeartbeats 1000000 in
theorem refWrite_any (v : Value) (bs : List Int) (vl : Value) (l : List Chg) (w : World) (hl : l.length ≤ 1000000) (hT : (writeTo bs l l.length).length ≤ 100000000000000) (hs : Sl w v (bs.map (Value.int .u8))) (hb : Bds w vl l) :
    Calls Try.prog 30 #[v, vl] w fun e w' => ∃ v', e = .returned v' ∧ w'.ownsRow w.heap.size 5 1 v' (writeTo bs l l.length).length ((writeTo bs l l.length).map (Value.int .u8)) ∧ Below w.heap.size w w' := by
  obtain ⟨a, cap, rfl, hc, hm⟩ := hb.shape
  have h0 : bs.length ≤ 100000000000000 := by have := writeTo_le bs l 0; unfold writeTo at this hT; simp at this hT; omega
  have HU := Lib.hid (ruint_any v bs l.length w h0 hs (by omega) (by omega))
  rw [Int.toNat_natCast] at HU
  have HE0 := Lib.hid (show bs ++ uintN l.length = writeTo bs l 0 by unfold writeTo; simp)
  have HTT := Lib.hid hT
  clear hT h0
  go_enter Try.func30, Try.ntmps30
  go_wp2_with fail
  refine HU.out.mono ?_
  rintro e w2 ⟨v2, rfl, hown, hb2⟩
  rw [HE0.out, ← List.length_append, HE0.out] at hown
  clear HU HE0
  go_wp2
  go_loopw [5, 14] (fun o i wr => ∃ (k : Nat) (ov : Value), ov = o ∧ k ≤ l.length ∧ i = .int .i64 k ∧ wr.ownsRow w.heap.size 5 1 ov (writeTo bs l k).length ((writeTo bs l k).map (Value.int .u8)) ∧ Below w.heap.size w wr) (fun _ i _ => l.length - (intOf i).toNat)
  case atStart => exact ⟨0, _, rfl, by omega, rfl, hown, hb2⟩
  case round =>
    obtain ⟨k, ov, rfl, hk, rfl, hO, hbr⟩ := hrel
    by_cases hlt : k < l.length
    · have hkI : (k : Int) < (l.length : Int) := by omega
      obtain ⟨b, off, rfl, hbl, u1, u2, c1, c2, s1, s2⟩ := hb.at hlt
      have c1 : wr.cell? ⟨b, off + k * 2, none⟩ = some u1 := (hbr.cell (p := ⟨b, off + k * 2, none⟩) hbl).trans c1
      have c2 : wr.cell? ⟨b, off + k * 2 + 1, none⟩ = some u2 := (hbr.cell (p := ⟨b, off + k * 2 + 1, none⟩) hbl).trans c2
      have s1 := s1.below hbr (Nat.le_refl _)
      have s2 := s2.below hbr (Nat.le_refl _)
      have HST := Lib.hid (writeTo_succ bs l k hlt)
      have hle := writeTo_le bs l (k + 1)
      rw [HST.out] at hle
      generalize l.getD k ([], []) = P at *
      obtain ⟨x, y⟩ := P
      have hq1 : (writeTo bs l k).length + x.length ≤ 100000000000000 := by have := HTT.out; have := bytesI_le x; simp only [List.length_append] at hle; omega
      have hq2 : (writeTo bs l k ++ bytesI x).length + y.length ≤ 100000000000000 := by have := HTT.out; have := bytesI_le y; simp only [List.length_append] at hle ⊢; omega
      have HQ1 := Lib.hid hq1
      have HQ2 := Lib.hid hq2
      clear hle hq1 hq2
      obtain ⟨xa, xn, xc, rfl⟩ := s1.val
      obtain ⟨ya, yn, yc, rfl⟩ := s2.val
      have hbA : Below wr.heap.size wr (wr.alloc (.cells #[.slice xa xn xc, .slice ya yn yc] 74)) := (Below.refl _ _).alloc (Nat.le_refl _) _
      have kA := Blk.new wr 74 #[.slice xa xn xc, .slice ya yn yc]
      have hoA := (Sl.of_owns hO).below hbA (Nat.le_refl _)
      have s1A := s1.below hbA (Nat.le_refl _)
      have s2A := s2.below hbA (Nat.le_refl _)
      have hbrA := hbr.trans (hbA.mono hbr.size)
      have HSZ := Lib.hid hbr.size
      generalize writeTo bs l k = WK at *
      clear s1 s2 hO hbr
      have HG : Hid (∀ w2, Below (wr.alloc (.cells #[.slice xa xn xc, .slice ya yn yc] 74)).heap.size (wr.alloc (.cells #[.slice xa xn xc, .slice ya yn yc] 74)) w2 → w2.cell? ⟨wr.heap.size, 0, none⟩ = some (.slice xa xn xc) ∧ w2.cell? ⟨wr.heap.size, 1, none⟩ = some (.slice ya yn yc)) := fun w2 h => ⟨(kA.belowS h).cell 0, (kA.belowS h).cell 1⟩
      have hG := Lib.hid (HG.out _ (Below.refl _ _))
      clear kA
      go_wp2_with fail
      generalize hwA : (wr.alloc (.cells #[.slice xa xn xc, .slice ya yn yc] 74)) = wA at *
      clear hwA
      have HR1 := Lib.hid (fun w2 (h : Below wA.heap.size wA w2) => rbytes_any ov WK _ x w2 HQ1.out (hoA.below h (Nat.le_refl _)) (s1A.below h (Nat.le_refl _)))
      have HR2 := Lib.hid (fun v w2 (h : Below wA.heap.size wA w2) ho => rbytes_any v (WK ++ bytesI x) _ y w2 HQ2.out ho (s2A.below h (Nat.le_refl _)))
      clear hoA s1A s2A
      go_wp2
      go_region_held3 (fun w' => w'.cell? ⟨wr.heap.size, 0, none⟩ = some (.slice xa xn xc) ∧ w'.cell? ⟨wr.heap.size, 1, none⟩ = some (.slice ya yn yc)) (exact hG.out) (first | (go_at_call 51; refine (HR2.out v5 _ hb5 ho5).mono ?_; rintro e w6 ⟨v6, rfl, ho6, hb6⟩; have hb6 : Below wA.heap.size wA w6 := below_trans2 hb5 hb6; have hG := Lib.hid (HG.out _ hb6)) | (go_at_call 51; refine (HR1.out _ (by first | exact Below.refl _ _ | exact (Below.refl _ _).drew)).mono ?_; rintro e w5 ⟨v5, rfl, ho5, hb5⟩; have hb5 : Below wA.heap.size wA w5 := ⟨hb5.os, hb5.tape, hb5.output, hb5.size, hb5.block⟩; have ho5 := Sl.of_owns ho5; have hG := Lib.hid (HG.out _ hb5)))
      rw [← HST.out] at ho6
      have ho6 := ownsRow_base ho6 (show w.heap.size ≤ w5.heap.size from Nat.le_trans hbrA.size hb5.size)
      have hb7 := hbrA.trans (hb6.mono hbrA.size)
      clear hb5 ho5
      go_wp2
      exact ⟨⟨k + 1, _, rfl, by omega, by go_num, ho6, hb7⟩, by simp [intOf]; omega⟩
    · obtain rfl : k = l.length := by omega
      have hkI : ¬ (l.length : Int) < (l.length : Int) := by omega
      go_wp2
      go_ret
      exact ⟨_, rfl, hO, hbr⟩

end Go.Proofs.Ytpdajglcpkfonaa
