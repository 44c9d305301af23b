/- A device that no call made: the walk of the law DeviceNobody. -/
import Derived.Test.YtdpocfhnhblphaaDvN
import Derived.Test.YtdpocfhnhblphaaDvU
namespace Go.Proofs.Ytdpocfhnhblphaa
open Go.RowKit
set_option linter.unusedVariables false

set_option maxRecDepth 100000 in
set_option maxHeartbeats 4000000 in
theorem deviceNobody_walk (v : Value) (p : Stp) (w : World) (hB : StpB p) (hv : StpV w v p) :
    Calls Try.prog 5 #[v] w fun e w' => e = .returned (.bool true) ∧ Below w.heap.size w w' := by
  obtain ⟨op, si, sbs⟩ := p
  obtain ⟨u, rfl, hsu⟩ := hv
  obtain ⟨ua, un, uc, rfl⟩ := hsu.val
  obtain ⟨s, hs⟩ : ∃ s, s = w.heap.size := ⟨_, rfl⟩
  have hbA : Below w.heap.size w (w.alloc (.cells #[.int .i64 op, .int .i64 si, .slice ua un uc] 36)) := (Below.refl _ _).alloc (Nat.le_refl _) _
  have kA := Blk.new w 36 #[.int .i64 op, .int .i64 si, .slice ua un uc]
  have hbB := hbA.alloc hbA.size (.cells #[.slice none 0 0, .bool false, .bool false, .int .i64 0, .int .i64 0] 47)
  have kB := Blk.new (w.alloc (.cells #[.int .i64 op, .int .i64 si, .slice ua un uc] 36)) 47 #[.slice none 0 0, .bool false, .bool false, .int .i64 0, .int .i64 0]
  have hbC := hbB.alloc hbB.size (.cells #[.pointer none, .pointer (some ⟨w.heap.size + 1, 0, none⟩)] 31)
  have kC := Blk.new ((w.alloc (.cells #[.int .i64 op, .int .i64 si, .slice ua un uc] 36)).alloc (.cells #[.slice none 0 0, .bool false, .bool false, .int .i64 0, .int .i64 0] 47)) 31 #[.pointer none, .pointer (some ⟨w.heap.size + 1, 0, none⟩)]
  have kA2 := (kA.alloc (.cells #[.slice none 0 0, .bool false, .bool false, .int .i64 0, .int .i64 0] 47)).alloc (.cells #[.pointer none, .pointer (some ⟨w.heap.size + 1, 0, none⟩)] 31)
  have kB2 := kB.alloc (.cells #[.pointer none, .pointer (some ⟨w.heap.size + 1, 0, none⟩)] 31)
  rw [World.size_alloc] at kB2
  have hszC : ((w.alloc (.cells #[.int .i64 op, .int .i64 si, .slice ua un uc] 36)).alloc (.cells #[.slice none 0 0, .bool false, .bool false, .int .i64 0, .int .i64 0] 47)).heap.size = w.heap.size + 2 := by simp
  rw [hszC] at kC
  have hsC := hsu.below hbC (Nat.le_refl _)
  clear hbA kA hbB kB hsu hszC
  go_enter Try.func5, Try.ntmps5
  go_upto_region 2 with (fail)
  generalize (((w.alloc (.cells #[.int .i64 op, .int .i64 si, .slice ua un uc] 36)).alloc (.cells #[.slice none 0 0, .bool false, .bool false, .int .i64 0, .int .i64 0] 47)).alloc (.cells #[.pointer none, .pointer (some ⟨w.heap.size + 1, 0, none⟩)] 31)) = w3 at *
  have HK := Lib.hid (show Blk w3 w.heap.size 36 #[.int .i64 op, .int .i64 si, .slice ua un uc] ∧ Blk w3 (w.heap.size + 1) 47 #[.slice none 0 0, .bool false, .bool false, .int .i64 0, .int .i64 0] ∧ Blk w3 (w.heap.size + 2) 31 #[.pointer none, .pointer (some ⟨w.heap.size + 1, 0, none⟩)] from ⟨kA2, kB2, kC⟩)
  have HS := Lib.hid hsC
  have HB := Lib.hid hbC
  clear kA2 kB2 kC hsC hbC
  go_loopw [11] (fun i wr => ∃ k : Nat, k ≤ 2 ∧ i = .int .i64 k ∧ Below w3.heap.size w3 wr) (fun i _ => 2 - (intOf i).toNat)
  case atStart => exact ⟨0, by omega, rfl, Below.refl _ _⟩
  case round =>
    obtain ⟨k, hk, rfl, hbr⟩ := hrel
    by_cases hlt : k < 2
    · have hkI : (k : Int) < 2 := by omega
      have kA := HK.out.1.belowS hbr
      have kB := HK.out.2.1.belowS hbr
      have kC := HK.out.2.2.belowS hbr
      obtain ⟨a, ca, hND⟩ : ∃ a, wr.cell? ⟨w.heap.size + 2, k, none⟩ = some (.pointer a) ∧ NoDev wr a := by
        match k, hlt with
        | 0, _ => exact ⟨none, kC.cell 0, .inl rfl⟩
        | 1, _ => exact ⟨some ⟨w.heap.size + 1, 0, none⟩, kC.cell 1, .inr ⟨_, rfl, kB.cell 0⟩⟩
      obtain ⟨z0, z1, z2⟩ := cell3 kA
      have HRD := Lib.hid (nread_any wr a si hND)
      have HSR := Lib.hid (HS.out.below hbr (Nat.le_refl _))
      have HBR := Lib.hid hbr
      have HKA := Lib.hid kA
      have HND := Lib.hid hND
      have HFR := Lib.hid (fun w' (q : Below wr.heap.size wr w') => (show NoDev w' a from by
        rcases HND.out with rfl | ⟨g, rfl, c⟩
        · exact .inl rfl
        · exact .inr ⟨g, rfl, (q.cell (p := ⟨g, 0, none⟩) (World.block_lt_of_cell? _ _ c)).trans c⟩))
      clear hbr kA kB kC hND
      go_wp2_with fail
      refine HRD.out.mono ?_
      rintro e w4 ⟨rfl, rfl⟩
      go_upto_region 5 with (fail)
      have HFU := Lib.hid (fun w' (q : Below wr.heap.size wr w') => full_any op si (.slice ua un uc) sbs w' (HSR.out.below q (Nat.le_refl _)))
      have hG := Lib.hid (show wr.cell? ⟨w.heap.size, 0, none⟩ = some (.int .i64 op) ∧ wr.cell? ⟨w.heap.size, 1, none⟩ = some (.int .i64 si) ∧ wr.cell? ⟨w.heap.size, 2, none⟩ = some (.slice ua un uc) ∧ NoDev wr a from ⟨z0, z1, z2, HND.out⟩)
      have HGF := Lib.hid (fun w' (q : Below wr.heap.size wr w') => (show w'.cell? ⟨w.heap.size, 0, none⟩ = some (.int .i64 op) ∧ w'.cell? ⟨w.heap.size, 1, none⟩ = some (.int .i64 si) ∧ w'.cell? ⟨w.heap.size, 2, none⟩ = some (.slice ua un uc) ∧ NoDev w' a from by
        obtain ⟨y0, y1, y2⟩ := cell3 (HKA.out.belowS q)
        exact ⟨y0, y1, y2, HFR.out w' q⟩))
      clear z0 z1 z2 HND HFR HSR HKA ca
      go_region_held3 (fun w' => w'.cell? ⟨w.heap.size, 0, none⟩ = some (.int .i64 op) ∧ w'.cell? ⟨w.heap.size, 1, none⟩ = some (.int .i64 si) ∧ w'.cell? ⟨w.heap.size, 2, none⟩ = some (.slice ua un uc) ∧ NoDev w' a) (exact hG.out) (first
        | (go_at_call 12; refine (HFU.out _ (by first | exact Below.refl _ _ | exact (Below.refl _ _).drew)).mono ?_; rintro e w6 ⟨x6, rfl, hx6, hb6⟩; obtain ⟨ya, yn, yc, rfl⟩ := hx6.sl.val; have hb6 : Below wr.heap.size wr w6 := ⟨hb6.os, hb6.tape, hb6.output, hb6.size, hb6.block⟩; have hG := Lib.hid (HGF.out _ hb6))
        | (go_at_call 13; refine (nwrite_any _ _ _ _ _ _ hG.out.2.2.2).mono ?_; rintro e w7 ⟨rfl, rfl⟩)
        | (go_at_call 14; refine (nsync_any _ _ hG.out.2.2.2).mono ?_; rintro e w7 ⟨rfl, rfl⟩)
        | (go_at_call 18; refine (nfuse_any _ _ _ hG.out.2.2.2).mono ?_; rintro e w7 ⟨rfl, rfl⟩)
        | (go_at_call 15; refine (ncrash_any _ _ _ _ _ hG.out.2.2.2).mono ?_; rintro e w7 ⟨rfl, rfl⟩)
        | (go_at_call 19; refine (ndead_any _ _ hG.out.2.2.2).mono ?_; rintro e w7 ⟨rfl, rfl⟩)
        | (go_at_call 20; refine (nwaits_any _ _ hG.out.2.2.2).mono ?_; rintro e w7 ⟨rfl, rfl⟩)
        | (go_at_call 21; refine (nimage_any _ _ hG.out.2.2.2).mono ?_; rintro e w7 ⟨rfl, rfl⟩)
        | (go_at_call 22; refine (nchanges_any _ _ hG.out.2.2.2).mono ?_; rintro e w7 ⟨rfl, rfl⟩)
        | (go_at_call 23; refine (ncopy_any _ _ hG.out.2.2.2).mono ?_; rintro e w7 ⟨rfl, rfl⟩))
      all_goals
        have hb3 := HBR.out.trans (hb6.mono HBR.out.size)
        clear hb6 hG
        go_wp2
        exact ⟨⟨k + 1, by omega, by go_num, hb3⟩, by simp [intOf]; omega⟩
    · obtain rfl : k = 2 := by omega
      have HAW := Lib.hid (deviceAwake_any wr)
      have HBR := Lib.hid hbr
      clear hbr
      go_wp2_with fail
      refine HAW.out.mono ?_
      rintro e w4 ⟨rfl, hb4⟩
      have hb := below_trans2 (HB.out.trans (HBR.out.mono HB.out.size)) hb4
      go_wp2
      go_ret
      exact ⟨rfl, hb⟩

end Go.Proofs.Ytdpocfhnhblphaa
