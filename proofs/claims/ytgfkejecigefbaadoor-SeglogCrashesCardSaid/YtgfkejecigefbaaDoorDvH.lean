
/- A device: Crash. -/
import Derived.Test.YtgfkejecigefbaaDoorDvG
namespace Go.Proofs.YtgfkejecigefbaaDoor
open Go.RowKit
set_option linter.unusedVariables false

set_option maxRecDepth 100000 in
set_option maxHeartbeats 4000000 in
theorem dcrash_any (w : World) (g b : Nat) (d : DSt) (v : Value) (keep : List Int) (h : Dev w g b d) (hv : Sl w v (keep.map (Value.int .u8))) (hne : ∀ o n c, 0 < n → v ≠ .slice (some ⟨b, o, none⟩) n c) :
    Calls Tryd.prog 20 #[.pointer (some ⟨g, 0, none⟩), v] w fun e w' => e = .returned (.int .i64 0) ∧ Dev w' g b (d.crash keep) ∧ Only [g, b] w w' := by
  have HN := Lib.hid (dnone_any w g b d h)
  have HW := Lib.hid (dwaits_any w g b d h)
  have HD := Lib.hid h
  have HV := Lib.hid hv
  have HNE := Lib.hid hne
  obtain ⟨va, vc, rfl, hvc, hvm⟩ := hv.shape
  rw [List.length_map] at *
  have hgb := h.ne
  have hpos := h.pos
  clear h hv hne
  go_enter Tryd.func20, Tryd.ntmps20
  go_wp2_with fail
  refine HN.out.mono ?_
  rintro e w1 ⟨rfl, rfl⟩
  go_wp2_with fail
  refine HW.out.mono ?_
  rintro e w1 ⟨x, rfl, hx, hb1⟩
  obtain ⟨xa, xn, xc, rfl⟩ := (Sl.of_owns hx).val
  obtain rfl : xn = (wlL d.ws).length := by
    have := (Sl.of_owns hx).len.1
    rw [List.length_map] at this; exact this
  have hD1 := HD.out.below hb1
  have hv1 := HV.out.below hb1 (Nat.le_refl _)
  obtain ⟨cap, h1, h2, k⟩ := hD1.blk
  have HK := Lib.hid k
  have HR := Lib.hid hD1.row
  have HOK := Lib.hid hD1.ok
  have HX := Lib.hid hx
  have HB1 := Lib.hid hb1
  have HV1 := Lib.hid hv1
  have HWB := Lib.hid (show (wlL d.ws).length ≤ 16384 from by have := wlN_bound d.ws d.ws.length; unfold wlL; unfold DSt.ws at this ⊢; rw [List.length_map] at this ⊢; omega)
  have hWBB := HWB.out
  clear hx hb1 hv1 hD1 k
  go_wp2
  go_loopw [13] (fun i wr => ∃ k : Nat, k ≤ (wlL d.ws).length ∧ i = .int .i64 k ∧ SRow wr b (crK d.l keep k) ∧ Only [b] w1 wr) (fun i _ => (wlL d.ws).length - (intOf i).toNat)
  case atStart => exact ⟨0, by omega, rfl, by rw [crK_zero]; exact HR.out, Only.refl _ _⟩
  case round =>
    obtain ⟨k, hk, rfl, hr, ho⟩ := hrel
    have kr := ho.blk HK.out (by simp; exact hgb)
    have c0 : wr.cell? ⟨g, 0, none⟩ = some (.slice (some ⟨b, 0, none⟩) d.l.length cap) := kr.cell 0
    by_cases hlt : k < (wlL d.ws).length
    · have hkI : (k : Int) < ((wlL d.ws).length : Int) := by omega
      obtain ⟨i, s, e1, e2, e3, e4⟩ := crK_at (l := d.l) keep hlt
      have hil : i < d.l.length := (List.getElem?_eq_some_iff.1 e2).1
      have hiI : (i : Int) < (d.l.length : Int) := by omega
      obtain ⟨xb, xcap, hxa, hxl⟩ := HX.out.form (by omega)
      obtain ⟨rfl, rfl⟩ : xa = some ⟨xb, 0, none⟩ ∧ xc = xcap := by cases hxa; exact ⟨rfl, rfl⟩
      have hxbb : xb ≠ b := by
        obtain ⟨cur, kk⟩ := owns_blk HX.out (g := xb) rfl
        obtain ⟨cur2, k2⟩ := HR.out.typ
        exact Blk.ne_ kk k2 (by decide)
      have cx : wr.cell? ⟨xb, k, none⟩ = some (.int .i64 i) := by
        have := HX.out.cellAt k (by omega)
        rw [List.getElem?_map, show (wlL d.ws)[k]? = some i from e1] at this
        exact (ho.cell (p := ⟨xb, k, none⟩) hxl.2 (by simp; exact hxbb)).trans this
      have hS := hr.at_ i s e3
      have hL := hr.len s (List.mem_of_getElem? e3)
      have hT : wr.there b (i * 129) (s.kept.map (Value.int .u8)).toArray.size := by
        have := hr.there hS.now
        rw [List.length_map, hL.1] at this
        rw [List.size_toArray, List.length_map, hL.2]; exact this
      have HT := Lib.hid hT
      have HL := Lib.hid hL
      have HSK := Lib.hid hS.kept
      have hil2 : i < (crK d.l keep k).length := (List.getElem?_eq_some_iff.1 e3).1
      have HS1' := Lib.hid (settle_any (wr.setCells b (i * 129) (s.kept.map (Value.int .u8))) b i _ { s with now := s.kept } (hr.setNow e3 (bs := s.kept) hL.2) (List.getElem?_set_self hil2))
      have HS2 := Lib.hid (settle_any wr b i _ _ hr e3)
      have HO1 := Lib.hid (Only.setCells [b] wr (b := b) (by simp) (i * 129) (s.kept.map (Value.int .u8)))
      have c01 : (wr.setCells b (i * 129) (s.kept.map (Value.int .u8))).cell? ⟨g, 0, none⟩ = some (.slice (some ⟨b, 0, none⟩) d.l.length cap) := (HO1.out.blk kr (by simp; exact hgb)).cell 0
      have HE4 := Lib.hid e4
      have HO := Lib.hid ho
      clear hS hL hT hr kr ho e1 e2 e3 e4
      by_cases hkk : keep.length ≤ k
      · have hcr := Lib.hid (show crS keep k s = { now := s.kept, kept := s.kept, waits := false } from if_pos (.inl hkk))
        have hkkI : (keep.length : Int) ≤ (k : Int) := by omega
        go_wp2_with (first
          | (with_reducible refine wpList_load_mid rfl _ _ rfl b (i * 129 + 64) rfl (s.kept.map (Value.int .u8)) _ HSK.out Tryd.underlying85 rfl (size64L HL.out.2) ?_)
          | (refine wpList_store_mid rfl 85 _ _ rfl b (i * 129) (s.kept.map (Value.int .u8)).toArray rfl rfl HT.out (by rw [List.size_toArray]; exact size64L HL.out.2) (all_oneCell_toArray (oneB _)) ?_)
          | (go_at_call 44; refine HS1'.out.mono ?_; rintro e w2 ⟨rfl, hr2, ho2⟩))
        have hr3 : SRow w2 b (crK d.l keep (k + 1)) := by rw [← HE4.out, hcr.out]; rw [List.set_set] at hr2; exact hr2
        have ho3 := HO.out.trans (HO1.out.trans ho2)
        clear hr2 ho2
        go_wp2
        go_roundw
        case rel => exact ⟨k + 1, by omega, by go_num, hr3, ho3⟩
        case measure => simp [intOf]; omega
      · have hkkI : ¬ (keep.length : Int) ≤ (k : Int) := by omega
        have hkL : k < keep.length := by omega
        obtain ⟨kb, ko, rfl, hkb, hkc⟩ := HV1.out.ints (k := k) hkL
        have hkne : kb ≠ b := fun e => HNE.out ko keep.length vc (by omega) (by rw [e])
        have ck := (HO.out.cell (p := ⟨kb, ko + k, none⟩) hkb (by simp; exact hkne)).trans (hkc k hkL)
        have hkI2 : (k : Int) < (keep.length : Int) := by omega
        by_cases hz : keep.getD k 0 = 0
        · have hcr := Lib.hid (show crS keep k s = { now := s.kept, kept := s.kept, waits := false } from if_pos (.inr hz))
          rw [hz] at ck
          clear hz
          go_wp2_with (first
            | (with_reducible refine wpList_load_mid rfl _ _ rfl b (i * 129 + 64) rfl (s.kept.map (Value.int .u8)) _ HSK.out Tryd.underlying85 rfl (size64L HL.out.2) ?_)
            | (refine wpList_store_mid rfl 85 _ _ rfl b (i * 129) (s.kept.map (Value.int .u8)).toArray rfl rfl HT.out (by rw [List.size_toArray]; exact size64L HL.out.2) (all_oneCell_toArray (oneB _)) ?_)
            | (go_at_call 44; refine HS1'.out.mono ?_; rintro e w2 ⟨rfl, hr2, ho2⟩))
          have hr3 : SRow w2 b (crK d.l keep (k + 1)) := by rw [← HE4.out, hcr.out]; rw [List.set_set] at hr2; exact hr2
          have ho3 := HO.out.trans (HO1.out.trans ho2)
          clear hr2 ho2
          go_wp2
          go_roundw
          case rel => exact ⟨k + 1, by omega, by go_num, hr3, ho3⟩
          case measure => simp [intOf]; omega
        · have hcr := Lib.hid (show crS keep k s = { now := s.now, kept := s.now, waits := false } from if_neg (fun q => q.elim (fun q => hkk q) hz))
          have hzb : (keep.getD k 0 == 0) = false := by rw [beq_eq_false_iff_ne]; exact hz
          generalize keep.getD k 0 = kv at *
          clear hz
          go_wp2_with (go_at_call 44; refine HS2.out.mono ?_; rintro e w2 ⟨rfl, hr2, ho2⟩)
          have hr3 : SRow w2 b (crK d.l keep (k + 1)) := by rw [← HE4.out, hcr.out]; exact hr2
          have ho3 := HO.out.trans ho2
          clear hr2 ho2
          go_wp2
          go_roundw
          case rel => exact ⟨k + 1, by omega, by go_num, hr3, ho3⟩
          case measure => simp [intOf]; omega
    · obtain rfl : k = (wlL d.ws).length := by omega
      have hkI : ¬ ((wlL d.ws).length : Int) < ((wlL d.ws).length : Int) := by omega
      have q1 : wr.cell? ⟨g, 1, none⟩ = some (.bool d.dead) := kr.cell 1
      have q2 : wr.cell? ⟨g, 2, none⟩ = some (.bool d.fused) := kr.cell 2
      have q3 : wr.cell? ⟨g, 3, none⟩ = some (.int .i64 d.burns) := kr.cell 3
      have f1 := kr.frozen 1
      have f2 := kr.frozen 2
      have f3 := kr.frozen 3
      have r2 : (wr.setCell ⟨g, 1, none⟩ (.bool false)).cell? ⟨g, 2, none⟩ = some (.bool d.fused) := ((kr.set_ 1 (.bool false)).cell 2)
      have r3 : ((wr.setCell ⟨g, 1, none⟩ (.bool false)).setCell ⟨g, 2, none⟩ (.bool false)).cell? ⟨g, 3, none⟩ = some (.int .i64 d.burns) := (((kr.set_ 1 (.bool false)).set_ 2 (.bool false)).cell 3)
      have hO3 : Only [g] wr (((wr.setCell ⟨g, 1, none⟩ (.bool false)).setCell ⟨g, 2, none⟩ (.bool false)).setCell ⟨g, 3, none⟩ (.int .i64 0)) := ((Only.setCell _ _ (by simp) _).trans (Only.setCell _ _ (by simp) _)).trans (Only.setCell _ _ (by simp) _)
      have HF := Lib.hid (show Dev (((wr.setCell ⟨g, 1, none⟩ (.bool false)).setCell ⟨g, 2, none⟩ (.bool false)).setCell ⟨g, 3, none⟩ (.int .i64 0)) g b (d.crash keep) ∧ Only [g, b] w (((wr.setCell ⟨g, 1, none⟩ (.bool false)).setCell ⟨g, 2, none⟩ (.bool false)).setCell ⟨g, 3, none⟩ (.int .i64 0)) from by
        refine ⟨⟨⟨cap, by show (crashL d.l keep).length ≤ cap; unfold crashL; rw [List.length_mapIdx]; exact h1, h2, ?_⟩, ?_, by show 1 ≤ (crashL d.l keep).length ∧ (crashL d.l keep).length ≤ 16384; unfold crashL; rw [List.length_mapIdx]; exact hpos, ?_⟩, ?_⟩
        · show Blk _ g _ #[.slice (some ⟨b, 0, none⟩) (crashL d.l keep).length cap, _, _, _, _]
          unfold crashL; rw [List.length_mapIdx]
          exact ((kr.set_ 1 (.bool false)).set_ 2 (.bool false)).set_ 3 (.int .i64 0)
        · rw [show crK d.l keep (wlL d.ws).length = crashL d.l keep from crK_all d.l keep] at hr
          exact hr.only hO3 (by simp; exact fun e => hgb e.symm)
        · exact mapIdx_ok HOK.out fun i s _ q => crF_ok q
        · exact (Only.of_below _ HB1.out).trans ((ho.mono (by simp)).trans (hO3.mono (by simp))))
      clear hr kr ho hO3
      go_wp2
      go_ret
      exact ⟨rfl, HF.out⟩

end Go.Proofs.YtgfkejecigefbaaDoor
