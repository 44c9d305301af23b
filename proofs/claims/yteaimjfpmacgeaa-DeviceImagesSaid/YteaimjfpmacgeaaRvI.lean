/- The reference's device: Of refuses a text's length (printed by gen_rvi.py from XRvF). -/
import Derived.Test.YteaimjfpmacgeaaRvF
namespace Go.Proofs.Yteaimjfpmacgeaa
open Go.RowKit
set_option linter.unusedVariables false

set_option maxRecDepth 100000 in
set_option maxHeartbeats 4000000 in
theorem rof_bad (v : Value) (pss : List (List Int)) (w0 : World) (hv : Sls w0 v pss) (h1 : 1 ≤ pss.length) (h2 : pss.length ≤ 16384) (hl : ∃ p ∈ pss, p.length ≠ 64) :
    Calls Try.prog 34 #[v] w0 fun e w' => e = .returned (.tuple #[.pointer none, .int .i64 1]) ∧ Below w0.heap.size w0 w' := by
  have HV := Lib.hid hv
  obtain ⟨va, vc, rfl, hvc, hvm⟩ := hv.shape
  have hbA : Below w0.heap.size w0 (w0.alloc (.cells #[.slice none 0 0, .slice none 0 0, .slice none 0 0, .int .i64 (-1), .bool false, .int .i64 0] 87)) := (Below.refl _ _).alloc (Nat.le_refl _) _
  have kA := Blk.new w0 87 #[.slice none 0 0, .slice none 0 0, .slice none 0 0, .int .i64 (-1), .bool false, .int .i64 0]
  have HBA := Lib.hid hbA
  have HKA := Lib.hid kA
  have HH := Lib.hid hl
  have hI1 : ¬ (pss.length : Int) < 1 := by omega
  have hI2 : ¬ (16384 : Int) < (pss.length : Int) := by omega
  clear hv hbA kA hl
  go_enter Try.func34, Try.ntmps34
  go_upto_region 5 with (fail)
  generalize (w0.alloc (.cells #[.slice none 0 0, .slice none 0 0, .slice none 0 0, .int .i64 (-1), .bool false, .int .i64 0] 87)) = wA at *
  go_loopw [19] (fun i wr => ∃ (k : Nat) (vL vK vW : Value), k ≤ pss.length ∧ i = .int .i64 k ∧ Blk wr w0.heap.size 87 #[vL, vK, vW, .int .i64 (-1), .bool false, .int .i64 0] ∧ OBs wr w0.heap.size vL (pss.take k) ∧ OBs wr w0.heap.size vK (pss.take k) ∧ wr.ownsRow w0.heap.size 4 1 vW k (List.replicate k (.bool false)) ∧ (∀ g, vL.ownBlock = some g → vK.ownBlock ≠ some g) ∧ Below w0.heap.size w0 wr ∧ (∀ p ∈ pss.take k, p.length = 64)) (fun i _ => pss.length - (intOf i).toNat)
  case atStart => exact ⟨0, _, _, _, by omega, rfl, HKA.out, OBs.nil _ _, OBs.nil _ _, World.ownsRow_nil _ _ _ _, fun g hg => (by cases hg), HBA.out, (by simp)⟩
  case round =>
    obtain ⟨k, vL, vK, vW, hk, rfl, hY, hL, hK, hW, hsep, hb, h64⟩ := hrel
    by_cases hlt : k < pss.length
    · have hkI : (k : Int) < (pss.length : Int) := by omega
      obtain ⟨b, off, rfl, hbb, uu, hcu, hu⟩ := HV.out.at hlt
      have hcu := (hb.cell (p := ⟨b, off + k, none⟩) hbb).trans hcu
      rw [show pss.getD k [] = pss[k] from by rw [List.getD_eq_getElem?_getD, List.getElem?_eq_getElem hlt]; rfl] at hu
      have ht : pss.take k ++ [pss[k]] = pss.take (k + 1) := by rw [List.take_append_getElem]
      have H64 := Lib.hid h64
      clear h64
      generalize pss[k] = p at *
      by_cases hp64 : p.length = 64
      rotate_left
      · obtain ⟨ta, tc, rfl, htc, htm⟩ := hu.shape
        rw [List.length_map] at hcu
        have hln : ((p.length : Int) != 64) = true := by rw [bne_iff_ne]; omega
        have HB := Lib.hid hb
        clear hY hL hK hW hsep hb hu hp64 htc htm
        go_wp2
        go_ret2
        exact ⟨rfl, HB.out⟩
      obtain ⟨ta, tc, rfl, htc, htm⟩ := hu.shape
      have HP := Lib.hid hp64
      rw [List.length_map, hp64] at hcu hu htc
      have HS := Lib.hid hu
      clear hu hp64
      go_upto_region 9 with (fail)
      have hX : (pss.take k).length ≤ 16384 := by rw [List.length_take]; omega
      have HT := Lib.hid ht
      generalize pss.take k = X at *
      refine wp_region_inv2 (ofInv w0.heap.size k vL vK vW X p w0 ta tc (.slice (some ⟨b, off, none⟩) pss.length vc) undef u2 u3 undef (.slice (some ⟨b, off, none⟩) pss.length vc) (.int .i64 pss.length) (.bool false) (.bool false) (.slice (some ⟨b, off, none⟩) pss.length vc) (.int .i64 pss.length) (.bool false) (.bool false) (.agg #[.slice none 0 0, .slice none 0 0, .slice none 0 0, .int .i64 (-1), .bool false, .int .i64 0]) (.pointer (some ⟨w0.heap.size, 0, none⟩)) (.slice (some ⟨b, off, none⟩) pss.length vc) (.int .i64 pss.length) (.int .i64 k) (.bool true) (.pointer (some ⟨b, off + k, none⟩)) (.slice ta 64 tc) (.slice ta 64 tc) (.int .i64 64) (.bool false) u59 undef) (by kernel_rfl) (by kernel_rfl) ?start ?step ?fin
      case start =>
        refine ⟨fun k => (#[u26, u27, u28, u29, u30, u31, u32, u33, u34, u35, u36, u37, u38, u39, u40, u41, u42, u43, u44, u45, u46, u47, u48, u49, u50, u51, u52, u53, u54, u55, u56, u57, u58] : Array Value).getD (k - 26) undef, rfl, ?_, ?_⟩
        · exact ⟨(fun q => by cases q), (fun q => by cases q), (fun q => by cases q), (fun q => by cases q), (fun q => by cases q), (fun q => by cases q), (fun q => by cases q), (fun q => by cases q), (fun q => by cases q), (fun q => by cases q), (fun q => by cases q), (fun q => by cases q), (fun q => by cases q), (fun q => by cases q), (fun q => by cases q), (fun q => by cases q), (fun q => by cases q), (fun q => by cases q), (fun q => by cases q), (fun q => by cases q), (fun q => by cases q), (fun q => by cases q), (fun q => by cases q)⟩
        · exact ⟨hY, hb.drew, fun _ => hL.only (Only.refl [] wr).drew (by simp), (fun q => by cases q), fun _ => hK.only (Only.refl [] wr).drew (by simp), (fun q => by cases q), fun _ => hW, (fun q => by cases q), hsep, (fun q => by cases q), (fun q => by cases q), (fun q => by cases q), (fun q => by cases q), (fun q => by cases q), (fun q => by cases q), (fun q => by cases q)⟩
      case step =>
        intro D a w i hi hI hD hcl hn
        obtain ⟨u, rfl, hT, hW⟩ := hI
        have hi' : i < 36 := hi
        clear hi
        rcases (show i = 0 ∨ i = 1 ∨ i = 2 ∨ i = 3 ∨ i = 4 ∨ i = 5 ∨ i = 6 ∨ i = 7 ∨ i = 8 ∨ i = 9 ∨ i = 10 ∨ i = 11 ∨ i = 12 ∨ i = 13 ∨ i = 14 ∨ i = 15 ∨ i = 16 ∨ i = 17 ∨ i = 18 ∨ i = 19 ∨ i = 20 ∨ i = 21 ∨ i = 22 ∨ i = 23 ∨ i = 24 ∨ i = 25 ∨ i = 26 ∨ i = 27 ∨ i = 28 ∨ i = 29 ∨ i = 30 ∨ i = 31 ∨ i = 32 ∨ i = 33 ∨ i = 34 ∨ i = 35 from by omega) with rfl | rfl | rfl | rfl | rfl | rfl | rfl | rfl | rfl | rfl | rfl | rfl | rfl | rfl | rfl | rfl | rfl | rfl | rfl | rfl | rfl | rfl | rfl | rfl | rfl | rfl | rfl | rfl | rfl | rfl | rfl | rfl | rfl | rfl | rfl | rfl
        · refine wpOp_plain rfl rfl ?_
          go_simp
          exact ⟨upd u 26 (.pointer (some ⟨w0.heap.size, 0, none⟩)), rfl, ⟨fun _ => rfl, fun h => hT.s1 h, fun h => hT.s2 h, fun h => hT.s3 h, fun h => hT.s4 h, fun h => hT.s5 h, fun h => hT.s6 h, fun h => hT.s8 h, fun h => hT.s12 h, fun h => hT.s13 h, fun h => hT.s14 h, fun h => hT.s15 h, fun h => hT.s17 h, fun h => hT.s21 h, fun h => hT.s22 h, fun h => hT.s23 h, fun h => hT.s24 h, fun h => hT.s27 h, fun h => hT.s28 h, fun h => hT.s30 h, fun h => hT.s31 h, fun h => hT.s33 h, fun h => hT.s34 h⟩, ⟨hW.blk, hW.bel, hW.l0, hW.l1, hW.k0, hW.k1, hW.w0, hW.w1, hW.sep, hW.a7, hW.a9, hW.a10, hW.a16, hW.a18, hW.a19, hW.a25⟩⟩
        · refine wpOp_plain rfl rfl ?_
          go_simp
          exact ⟨upd u 27 (.pointer (some ⟨w0.heap.size, 0, none⟩)), rfl, ⟨fun h => hT.s0 h, fun _ => rfl, fun h => hT.s2 h, fun h => hT.s3 h, fun h => hT.s4 h, fun h => hT.s5 h, fun h => hT.s6 h, fun h => hT.s8 h, fun h => hT.s12 h, fun h => hT.s13 h, fun h => hT.s14 h, fun h => hT.s15 h, fun h => hT.s17 h, fun h => hT.s21 h, fun h => hT.s22 h, fun h => hT.s23 h, fun h => hT.s24 h, fun h => hT.s27 h, fun h => hT.s28 h, fun h => hT.s30 h, fun h => hT.s31 h, fun h => hT.s33 h, fun h => hT.s34 h⟩, ⟨hW.blk, hW.bel, hW.l0, hW.l1, hW.k0, hW.k1, hW.w0, hW.w1, hW.sep, hW.a7, hW.a9, hW.a10, hW.a16, hW.a18, hW.a19, hW.a25⟩⟩
        · refine wpOp_plain rfl rfl ?_
          go_simp
          exact ⟨upd u 28 (.pointer (some ⟨w0.heap.size, 0, none⟩)), rfl, ⟨fun h => hT.s0 h, fun h => hT.s1 h, fun _ => rfl, fun h => hT.s3 h, fun h => hT.s4 h, fun h => hT.s5 h, fun h => hT.s6 h, fun h => hT.s8 h, fun h => hT.s12 h, fun h => hT.s13 h, fun h => hT.s14 h, fun h => hT.s15 h, fun h => hT.s17 h, fun h => hT.s21 h, fun h => hT.s22 h, fun h => hT.s23 h, fun h => hT.s24 h, fun h => hT.s27 h, fun h => hT.s28 h, fun h => hT.s30 h, fun h => hT.s31 h, fun h => hT.s33 h, fun h => hT.s34 h⟩, ⟨hW.blk, hW.bel, hW.l0, hW.l1, hW.k0, hW.k1, hW.w0, hW.w1, hW.sep, hW.a7, hW.a9, hW.a10, hW.a16, hW.a18, hW.a19, hW.a25⟩⟩
        · refine wpOp_plain rfl rfl ?_
          go_simp
          exact ⟨upd u 29 (.pointer (some ⟨w0.heap.size, 0, none⟩)), rfl, ⟨fun h => hT.s0 h, fun h => hT.s1 h, fun h => hT.s2 h, fun _ => rfl, fun h => hT.s4 h, fun h => hT.s5 h, fun h => hT.s6 h, fun h => hT.s8 h, fun h => hT.s12 h, fun h => hT.s13 h, fun h => hT.s14 h, fun h => hT.s15 h, fun h => hT.s17 h, fun h => hT.s21 h, fun h => hT.s22 h, fun h => hT.s23 h, fun h => hT.s24 h, fun h => hT.s27 h, fun h => hT.s28 h, fun h => hT.s30 h, fun h => hT.s31 h, fun h => hT.s33 h, fun h => hT.s34 h⟩, ⟨hW.blk, hW.bel, hW.l0, hW.l1, hW.k0, hW.k1, hW.w0, hW.w1, hW.sep, hW.a7, hW.a9, hW.a10, hW.a16, hW.a18, hW.a19, hW.a25⟩⟩
        · have d3 : D 3 = true := hn 3 (needs_b (by kernel_rfl))
          have e29 := hT.s3 d3
          refine wpOp_plain rfl rfl ?_
          go_simp
          exact ⟨upd u 30 (.pointer (some ⟨w0.heap.size, 0, none⟩)), by first | rfl | simp [upd, e29], ⟨fun h => hT.s0 h, fun h => hT.s1 h, fun h => hT.s2 h, fun h => hT.s3 h, fun _ => rfl, fun h => hT.s5 h, fun h => hT.s6 h, fun h => hT.s8 h, fun h => hT.s12 h, fun h => hT.s13 h, fun h => hT.s14 h, fun h => hT.s15 h, fun h => hT.s17 h, fun h => hT.s21 h, fun h => hT.s22 h, fun h => hT.s23 h, fun h => hT.s24 h, fun h => hT.s27 h, fun h => hT.s28 h, fun h => hT.s30 h, fun h => hT.s31 h, fun h => hT.s33 h, fun h => hT.s34 h⟩, ⟨hW.blk, hW.bel, hW.l0, hW.l1, hW.k0, hW.k1, hW.w0, hW.w1, hW.sep, hW.a7, hW.a9, hW.a10, hW.a16, hW.a18, hW.a19, hW.a25⟩⟩
        · have d4 : D 4 = true := hn 4 (needs_b (by kernel_rfl))
          have e30 := hT.s4 d4
          refine wpOp_plain rfl rfl ?_
          go_simp
          exact ⟨upd u 31 (.pointer (some ⟨w0.heap.size, 0, none⟩)), by first | rfl | simp [upd, e30], ⟨fun h => hT.s0 h, fun h => hT.s1 h, fun h => hT.s2 h, fun h => hT.s3 h, fun h => hT.s4 h, fun _ => rfl, fun h => hT.s6 h, fun h => hT.s8 h, fun h => hT.s12 h, fun h => hT.s13 h, fun h => hT.s14 h, fun h => hT.s15 h, fun h => hT.s17 h, fun h => hT.s21 h, fun h => hT.s22 h, fun h => hT.s23 h, fun h => hT.s24 h, fun h => hT.s27 h, fun h => hT.s28 h, fun h => hT.s30 h, fun h => hT.s31 h, fun h => hT.s33 h, fun h => hT.s34 h⟩, ⟨hW.blk, hW.bel, hW.l0, hW.l1, hW.k0, hW.k1, hW.w0, hW.w1, hW.sep, hW.a7, hW.a9, hW.a10, hW.a16, hW.a18, hW.a19, hW.a25⟩⟩
        · have d5 : D 5 = true := hn 5 (needs_b (by kernel_rfl))
          have e31 := hT.s5 d5
          have n1 : D 29 = false := by
            cases q : D 29 with
            | false => rfl
            | true => have := hcl 11 6 (hcl 29 11 q (needs_b (by kernel_rfl))) (needs_b (by kernel_rfl)); rw [hD] at this; cases this
          have c0 : w.cell? ⟨w0.heap.size, 0, none⟩ = some vL := (hW.blk.cell 0).trans (by simp [n1])
          refine wpOp_plain rfl rfl ?_
          go_simp
          exact ⟨upd u 32 (vL), by first | rfl | simp [upd, e31], ⟨fun h => hT.s0 h, fun h => hT.s1 h, fun h => hT.s2 h, fun h => hT.s3 h, fun h => hT.s4 h, fun h => hT.s5 h, fun _ => rfl, fun h => hT.s8 h, fun h => hT.s12 h, fun h => hT.s13 h, fun h => hT.s14 h, fun h => hT.s15 h, fun h => hT.s17 h, fun h => hT.s21 h, fun h => hT.s22 h, fun h => hT.s23 h, fun h => hT.s24 h, fun h => hT.s27 h, fun h => hT.s28 h, fun h => hT.s30 h, fun h => hT.s31 h, fun h => hT.s33 h, fun h => hT.s34 h⟩, ⟨hW.blk, hW.bel, hW.l0, hW.l1, hW.k0, hW.k1, hW.w0, hW.w1, hW.sep, hW.a7, hW.a9, hW.a10, hW.a16, hW.a18, hW.a19, hW.a25⟩⟩
        · refine wpOp_plain rfl rfl ?_
          go_simp
          have hb2 : Below w.heap.size w (w.alloc (.cells #[] 5)) := (Below.refl _ _).alloc (Nat.le_refl _) _
          have hW := hW.below hb2
          exact ⟨upd u 33 (.slice (some ⟨w.heap.size, 0, none⟩) 0 0), rfl, ⟨fun h => hT.s0 h, fun h => hT.s1 h, fun h => hT.s2 h, fun h => hT.s3 h, fun h => hT.s4 h, fun h => hT.s5 h, fun h => hT.s6 h, fun h => hT.s8 h, fun h => hT.s12 h, fun h => hT.s13 h, fun h => hT.s14 h, fun h => hT.s15 h, fun h => hT.s17 h, fun h => hT.s21 h, fun h => hT.s22 h, fun h => hT.s23 h, fun h => hT.s24 h, fun h => hT.s27 h, fun h => hT.s28 h, fun h => hT.s30 h, fun h => hT.s31 h, fun h => hT.s33 h, fun h => hT.s34 h⟩, ⟨hW.blk, hW.bel, hW.l0, hW.l1, hW.k0, hW.k1, hW.w0, hW.w1, hW.sep, (fun _ => ⟨_, rfl⟩), hW.a9, hW.a10, hW.a16, hW.a18, hW.a19, hW.a25⟩⟩
        · refine wpOp_plain rfl rfl ?_
          go_simp
          exact ⟨upd u 34 (.slice ta 64 tc), rfl, ⟨fun h => hT.s0 h, fun h => hT.s1 h, fun h => hT.s2 h, fun h => hT.s3 h, fun h => hT.s4 h, fun h => hT.s5 h, fun h => hT.s6 h, fun _ => rfl, fun h => hT.s12 h, fun h => hT.s13 h, fun h => hT.s14 h, fun h => hT.s15 h, fun h => hT.s17 h, fun h => hT.s21 h, fun h => hT.s22 h, fun h => hT.s23 h, fun h => hT.s24 h, fun h => hT.s27 h, fun h => hT.s28 h, fun h => hT.s30 h, fun h => hT.s31 h, fun h => hT.s33 h, fun h => hT.s34 h⟩, ⟨hW.blk, hW.bel, hW.l0, hW.l1, hW.k0, hW.k1, hW.w0, hW.w1, hW.sep, hW.a7, hW.a9, hW.a10, hW.a16, hW.a18, hW.a19, hW.a25⟩⟩
        · have d7 : D 7 = true := hn 7 (needs_b (by kernel_rfl))
          have d8 : D 8 = true := hn 8 (needs_b (by kernel_rfl))
          obtain ⟨g, e33⟩ := hW.a7 d7
          have e34 := hT.s8 d8
          refine wpOp_step rfl rfl (step_append_new rfl (.tmp 33) (.tmp 34) rfl g e33 ta tc e34 p HP.out (HS.out.below hW.bel (Nat.le_refl _)) ?_)
          intro v2 w2 hx hb2
          have hsz := hW.bel.size
          have hW := hW.below hb2
          exact ⟨upd u 35 v2, rfl, ⟨fun h => hT.s0 h, fun h => hT.s1 h, fun h => hT.s2 h, fun h => hT.s3 h, fun h => hT.s4 h, fun h => hT.s5 h, fun h => hT.s6 h, fun h => hT.s8 h, fun h => hT.s12 h, fun h => hT.s13 h, fun h => hT.s14 h, fun h => hT.s15 h, fun h => hT.s17 h, fun h => hT.s21 h, fun h => hT.s22 h, fun h => hT.s23 h, fun h => hT.s24 h, fun h => hT.s27 h, fun h => hT.s28 h, fun h => hT.s30 h, fun h => hT.s31 h, fun h => hT.s33 h, fun h => hT.s34 h⟩, ⟨hW.blk, hW.bel, hW.l0, hW.l1, hW.k0, hW.k1, hW.w0, hW.w1, hW.sep, hW.a7, (fun _ => hx.base hsz), (fun q _ => (by have := hcl 10 9 q (needs_b (by kernel_rfl)); rw [hD] at this; cases this)), hW.a16, hW.a18, hW.a19, hW.a25⟩⟩
        · have d9 : D 9 = true := hn 9 (needs_b (by kernel_rfl))
          obtain ⟨xa, xn, xc, e35⟩ := (hW.a9 d9).sl.val
          refine wpOp_plain rfl rfl ?_
          go_simp
          have hb2 : Below w.heap.size w (w.alloc (.cells #[.slice xa xn xc] 29)) := (Below.refl _ _).alloc (Nat.le_refl _) _
          have kb := Blk.new w 29 #[.slice xa xn xc]
          have hW := hW.below hb2
          exact ⟨upd u 36 (.slice (some ⟨w.heap.size, 0, none⟩) 1 1), by first | rfl | simp [upd, e35], ⟨fun h => hT.s0 h, fun h => hT.s1 h, fun h => hT.s2 h, fun h => hT.s3 h, fun h => hT.s4 h, fun h => hT.s5 h, fun h => hT.s6 h, fun h => hT.s8 h, fun h => hT.s12 h, fun h => hT.s13 h, fun h => hT.s14 h, fun h => hT.s15 h, fun h => hT.s17 h, fun h => hT.s21 h, fun h => hT.s22 h, fun h => hT.s23 h, fun h => hT.s24 h, fun h => hT.s27 h, fun h => hT.s28 h, fun h => hT.s30 h, fun h => hT.s31 h, fun h => hT.s33 h, fun h => hT.s34 h⟩, ⟨hW.blk, hW.bel, hW.l0, hW.l1, hW.k0, hW.k1, hW.w0, hW.w1, hW.sep, hW.a7, hW.a9, (fun _ _ => ⟨w.heap.size, rfl, by show Blk _ _ _ #[u 35]; rw [e35]; exact kb⟩), hW.a16, hW.a18, hW.a19, hW.a25⟩⟩
        · have d6 : D 6 = true := hn 6 (needs_b (by kernel_rfl))
          have d10 : D 10 = true := hn 10 (needs_b (by kernel_rfl))
          have d9 : D 9 = true := hn 9 (needs_b (by kernel_rfl))
          have e32 := hT.s6 d6
          obtain ⟨b, e36, kb⟩ := hW.a10 d10 hD
          have hOL := hW.l0 hD
          have n18 : D 18 = false := by
            cases q : D 18 with
            | false => rfl
            | true => have := hcl 18 11 q (needs_b (by kernel_rfl)); rw [hD] at this; cases this
          have n29 : D 29 = false := by
            cases q : D 29 with
            | false => rfl
            | true => have := hcl 29 11 q (needs_b (by kernel_rfl)); rw [hD] at this; cases this
          have n19 : D 19 = false := by
            cases q : D 19 with
            | false => rfl
            | true => have := hcl 19 18 q (needs_b (by kernel_rfl)); rw [n18] at this; cases this
          refine wpOp_step rfl rfl (step_append_ob2 rfl (.tmp 32) (.tmp 36) rfl w0.heap.size vL X e32 hOL b 1 e36 (u 35) (kb.cell 0) p (hW.a9 d9) (by have := hX; omega) hW.bel.size ?_)
          intro v2 w2 hx hb2 hg2 hq2
          have ho := Only.of_grownO hg2
          have typ : ∀ g ∈ vL.ownBlock.toList, ∃ cur, Blk w g 29 cur := fun g hg => by
            obtain ⟨vs, h1, _⟩ := hOL
            exact owns_blk h1 (by simpa using hg)
          have h8 : ∀ g ∈ vL.ownBlock.toList, ∀ cur, ¬ Blk w g 5 cur := fun g hg cur e => by
            obtain ⟨cur2, k2⟩ := typ g hg
            exact Blk.ne_ e k2 (by decide) rfl
          have hbo : ∀ g ∈ vL.ownBlock.toList, ∀ cur, ¬ Blk w g 4 cur := fun g hg cur e => by
            obtain ⟨cur2, k2⟩ := typ g hg
            exact Blk.ne_ e k2 (by decide) rfl
          have hyn : w0.heap.size ∉ vL.ownBlock.toList := fun hm => by
            obtain ⟨cur2, k2⟩ := typ _ hm
            exact Blk.ne_ hW.blk k2 (by decide) rfl
          have hsp : ∀ g, (cond (D 20) (u 46) vK).ownBlock = some g → g ∉ vL.ownBlock.toList := fun g hg hm => hW.sep g (by rw [hD]; simpa using hm) hg
          have hws : ∀ (v : Value) n xs, w.ownsRow w0.heap.size 4 1 v n xs → w2.ownsRow w0.heap.size 4 1 v n xs := fun v n xs q => ho.owns q fun g hg hm => by
            obtain ⟨cur, k⟩ := owns_blk q hg
            exact hbo g hm cur k
          have hsz := hW.bel.size
          have hlt : ∀ g, (cond (D 20) (u 46) vK).ownBlock = some g → g < w.heap.size := fun g hg => by
            cases q : D 20 with
            | false => rw [q] at hg; obtain ⟨vs, h1, _⟩ := hW.k0 q; obtain ⟨cur, k⟩ := owns_blk h1 hg; exact k.lt
            | true => rw [q] at hg; obtain ⟨vs, h1, _⟩ := hW.k1 q; obtain ⟨cur, k⟩ := owns_blk h1 hg; exact k.lt
          have hsep2 : ∀ g, v2.ownBlock = some g → (cond (D 20) (u 46) vK).ownBlock ≠ some g := fun g h1 h2 => by
            rcases hq2 g h1 with h3 | h3
            · exact hW.sep g (by rw [hD]; exact h3) h2
            · have := hlt g h2; omega
          exact ⟨upd u 37 v2, rfl, ⟨fun h => hT.s0 h, fun h => hT.s1 h, fun h => hT.s2 h, fun h => hT.s3 h, fun h => hT.s4 h, fun h => hT.s5 h, fun h => hT.s6 h, fun h => hT.s8 h, fun h => hT.s12 h, fun h => hT.s13 h, fun h => hT.s14 h, fun h => hT.s15 h, fun h => hT.s17 h, fun h => hT.s21 h, fun h => hT.s22 h, fun h => hT.s23 h, fun h => hT.s24 h, fun h => hT.s27 h, fun h => hT.s28 h, fun h => hT.s30 h, fun h => hT.s31 h, fun h => hT.s33 h, fun h => hT.s34 h⟩, ⟨(by have h := ho.blk hW.blk hyn; rw [n29] at h; show Blk _ _ _ #[cond (D 29) v2 vL, _, _, _, _, _]; rw [n29]; exact h), (hW.bel.trans hb2), (fun q => by cases q), (fun _ => hx), (fun q => (hW.k0 q).keepR ho h8 (by rw [show D 20 = false from q] at hsp; exact hsp)), (fun q => (hW.k1 q).keepR ho h8 (by rw [show D 20 = true from q] at hsp; exact hsp)), (fun q => hws _ _ _ (hW.w0 q)), (fun q => hws _ _ _ (hW.w1 q)), (hsep2), hW.a7, (fun q => (hW.a9 q).only ho h8), (fun _ q => by cases q), hW.a16, (fun q => (hW.a18 q).only ho h8), (fun q => by have q : D 19 = true := q; rw [n19] at q; cases q), (fun q r => by obtain ⟨b2, e2, k2⟩ := hW.a25 q r; exact ⟨b2, e2, ho.blk k2 (fun hm => hbo _ hm _ k2)⟩)⟩⟩
        · refine wpOp_plain rfl rfl ?_
          go_simp
          exact ⟨upd u 38 (.pointer (some ⟨w0.heap.size, 0, none⟩)), rfl, ⟨fun h => hT.s0 h, fun h => hT.s1 h, fun h => hT.s2 h, fun h => hT.s3 h, fun h => hT.s4 h, fun h => hT.s5 h, fun h => hT.s6 h, fun h => hT.s8 h, fun _ => rfl, fun h => hT.s13 h, fun h => hT.s14 h, fun h => hT.s15 h, fun h => hT.s17 h, fun h => hT.s21 h, fun h => hT.s22 h, fun h => hT.s23 h, fun h => hT.s24 h, fun h => hT.s27 h, fun h => hT.s28 h, fun h => hT.s30 h, fun h => hT.s31 h, fun h => hT.s33 h, fun h => hT.s34 h⟩, ⟨hW.blk, hW.bel, hW.l0, hW.l1, hW.k0, hW.k1, hW.w0, hW.w1, hW.sep, hW.a7, hW.a9, hW.a10, hW.a16, hW.a18, hW.a19, hW.a25⟩⟩
        · have d12 : D 12 = true := hn 12 (needs_b (by kernel_rfl))
          have e38 := hT.s12 d12
          refine wpOp_plain rfl rfl ?_
          go_simp
          exact ⟨upd u 39 (.pointer (some ⟨w0.heap.size, 0, none⟩)), by first | rfl | simp [upd, e38], ⟨fun h => hT.s0 h, fun h => hT.s1 h, fun h => hT.s2 h, fun h => hT.s3 h, fun h => hT.s4 h, fun h => hT.s5 h, fun h => hT.s6 h, fun h => hT.s8 h, fun h => hT.s12 h, fun _ => rfl, fun h => hT.s14 h, fun h => hT.s15 h, fun h => hT.s17 h, fun h => hT.s21 h, fun h => hT.s22 h, fun h => hT.s23 h, fun h => hT.s24 h, fun h => hT.s27 h, fun h => hT.s28 h, fun h => hT.s30 h, fun h => hT.s31 h, fun h => hT.s33 h, fun h => hT.s34 h⟩, ⟨hW.blk, hW.bel, hW.l0, hW.l1, hW.k0, hW.k1, hW.w0, hW.w1, hW.sep, hW.a7, hW.a9, hW.a10, hW.a16, hW.a18, hW.a19, hW.a25⟩⟩
        · have d13 : D 13 = true := hn 13 (needs_b (by kernel_rfl))
          have e39 := hT.s13 d13
          refine wpOp_plain rfl rfl ?_
          go_simp
          exact ⟨upd u 40 (.pointer (some ⟨w0.heap.size, 1, none⟩)), by first | rfl | simp [upd, e39], ⟨fun h => hT.s0 h, fun h => hT.s1 h, fun h => hT.s2 h, fun h => hT.s3 h, fun h => hT.s4 h, fun h => hT.s5 h, fun h => hT.s6 h, fun h => hT.s8 h, fun h => hT.s12 h, fun h => hT.s13 h, fun _ => rfl, fun h => hT.s15 h, fun h => hT.s17 h, fun h => hT.s21 h, fun h => hT.s22 h, fun h => hT.s23 h, fun h => hT.s24 h, fun h => hT.s27 h, fun h => hT.s28 h, fun h => hT.s30 h, fun h => hT.s31 h, fun h => hT.s33 h, fun h => hT.s34 h⟩, ⟨hW.blk, hW.bel, hW.l0, hW.l1, hW.k0, hW.k1, hW.w0, hW.w1, hW.sep, hW.a7, hW.a9, hW.a10, hW.a16, hW.a18, hW.a19, hW.a25⟩⟩
        · have d14 : D 14 = true := hn 14 (needs_b (by kernel_rfl))
          have e40 := hT.s14 d14
          have n1 : D 32 = false := by
            cases q : D 32 with
            | false => rfl
            | true => have := hcl 20 15 (hcl 32 20 q (needs_b (by kernel_rfl))) (needs_b (by kernel_rfl)); rw [hD] at this; cases this
          have c0 : w.cell? ⟨w0.heap.size, 1, none⟩ = some vK := (hW.blk.cell 1).trans (by simp [n1])
          refine wpOp_plain rfl rfl ?_
          go_simp
          exact ⟨upd u 41 (vK), by first | rfl | simp [upd, e40], ⟨fun h => hT.s0 h, fun h => hT.s1 h, fun h => hT.s2 h, fun h => hT.s3 h, fun h => hT.s4 h, fun h => hT.s5 h, fun h => hT.s6 h, fun h => hT.s8 h, fun h => hT.s12 h, fun h => hT.s13 h, fun h => hT.s14 h, fun _ => rfl, fun h => hT.s17 h, fun h => hT.s21 h, fun h => hT.s22 h, fun h => hT.s23 h, fun h => hT.s24 h, fun h => hT.s27 h, fun h => hT.s28 h, fun h => hT.s30 h, fun h => hT.s31 h, fun h => hT.s33 h, fun h => hT.s34 h⟩, ⟨hW.blk, hW.bel, hW.l0, hW.l1, hW.k0, hW.k1, hW.w0, hW.w1, hW.sep, hW.a7, hW.a9, hW.a10, hW.a16, hW.a18, hW.a19, hW.a25⟩⟩
        · refine wpOp_plain rfl rfl ?_
          go_simp
          have hb2 : Below w.heap.size w (w.alloc (.cells #[] 5)) := (Below.refl _ _).alloc (Nat.le_refl _) _
          have hW := hW.below hb2
          exact ⟨upd u 42 (.slice (some ⟨w.heap.size, 0, none⟩) 0 0), rfl, ⟨fun h => hT.s0 h, fun h => hT.s1 h, fun h => hT.s2 h, fun h => hT.s3 h, fun h => hT.s4 h, fun h => hT.s5 h, fun h => hT.s6 h, fun h => hT.s8 h, fun h => hT.s12 h, fun h => hT.s13 h, fun h => hT.s14 h, fun h => hT.s15 h, fun h => hT.s17 h, fun h => hT.s21 h, fun h => hT.s22 h, fun h => hT.s23 h, fun h => hT.s24 h, fun h => hT.s27 h, fun h => hT.s28 h, fun h => hT.s30 h, fun h => hT.s31 h, fun h => hT.s33 h, fun h => hT.s34 h⟩, ⟨hW.blk, hW.bel, hW.l0, hW.l1, hW.k0, hW.k1, hW.w0, hW.w1, hW.sep, hW.a7, hW.a9, hW.a10, (fun _ => ⟨_, rfl⟩), hW.a18, hW.a19, hW.a25⟩⟩
        · refine wpOp_plain rfl rfl ?_
          go_simp
          exact ⟨upd u 43 (.slice ta 64 tc), rfl, ⟨fun h => hT.s0 h, fun h => hT.s1 h, fun h => hT.s2 h, fun h => hT.s3 h, fun h => hT.s4 h, fun h => hT.s5 h, fun h => hT.s6 h, fun h => hT.s8 h, fun h => hT.s12 h, fun h => hT.s13 h, fun h => hT.s14 h, fun h => hT.s15 h, fun _ => rfl, fun h => hT.s21 h, fun h => hT.s22 h, fun h => hT.s23 h, fun h => hT.s24 h, fun h => hT.s27 h, fun h => hT.s28 h, fun h => hT.s30 h, fun h => hT.s31 h, fun h => hT.s33 h, fun h => hT.s34 h⟩, ⟨hW.blk, hW.bel, hW.l0, hW.l1, hW.k0, hW.k1, hW.w0, hW.w1, hW.sep, hW.a7, hW.a9, hW.a10, hW.a16, hW.a18, hW.a19, hW.a25⟩⟩
        · have d16 : D 16 = true := hn 16 (needs_b (by kernel_rfl))
          have d17 : D 17 = true := hn 17 (needs_b (by kernel_rfl))
          obtain ⟨g, e42⟩ := hW.a16 d16
          have e43 := hT.s17 d17
          refine wpOp_step rfl rfl (step_append_new rfl (.tmp 42) (.tmp 43) rfl g e42 ta tc e43 p HP.out (HS.out.below hW.bel (Nat.le_refl _)) ?_)
          intro v2 w2 hx hb2
          have hsz := hW.bel.size
          have hW := hW.below hb2
          exact ⟨upd u 44 v2, rfl, ⟨fun h => hT.s0 h, fun h => hT.s1 h, fun h => hT.s2 h, fun h => hT.s3 h, fun h => hT.s4 h, fun h => hT.s5 h, fun h => hT.s6 h, fun h => hT.s8 h, fun h => hT.s12 h, fun h => hT.s13 h, fun h => hT.s14 h, fun h => hT.s15 h, fun h => hT.s17 h, fun h => hT.s21 h, fun h => hT.s22 h, fun h => hT.s23 h, fun h => hT.s24 h, fun h => hT.s27 h, fun h => hT.s28 h, fun h => hT.s30 h, fun h => hT.s31 h, fun h => hT.s33 h, fun h => hT.s34 h⟩, ⟨hW.blk, hW.bel, hW.l0, hW.l1, hW.k0, hW.k1, hW.w0, hW.w1, hW.sep, hW.a7, hW.a9, hW.a10, hW.a16, (fun _ => hx.base hsz), (fun q _ => (by have := hcl 19 18 q (needs_b (by kernel_rfl)); rw [hD] at this; cases this)), hW.a25⟩⟩
        · have d18 : D 18 = true := hn 18 (needs_b (by kernel_rfl))
          obtain ⟨xa, xn, xc, e44⟩ := (hW.a18 d18).sl.val
          refine wpOp_plain rfl rfl ?_
          go_simp
          have hb2 : Below w.heap.size w (w.alloc (.cells #[.slice xa xn xc] 29)) := (Below.refl _ _).alloc (Nat.le_refl _) _
          have kb := Blk.new w 29 #[.slice xa xn xc]
          have hW := hW.below hb2
          exact ⟨upd u 45 (.slice (some ⟨w.heap.size, 0, none⟩) 1 1), by first | rfl | simp [upd, e44], ⟨fun h => hT.s0 h, fun h => hT.s1 h, fun h => hT.s2 h, fun h => hT.s3 h, fun h => hT.s4 h, fun h => hT.s5 h, fun h => hT.s6 h, fun h => hT.s8 h, fun h => hT.s12 h, fun h => hT.s13 h, fun h => hT.s14 h, fun h => hT.s15 h, fun h => hT.s17 h, fun h => hT.s21 h, fun h => hT.s22 h, fun h => hT.s23 h, fun h => hT.s24 h, fun h => hT.s27 h, fun h => hT.s28 h, fun h => hT.s30 h, fun h => hT.s31 h, fun h => hT.s33 h, fun h => hT.s34 h⟩, ⟨hW.blk, hW.bel, hW.l0, hW.l1, hW.k0, hW.k1, hW.w0, hW.w1, hW.sep, hW.a7, hW.a9, hW.a10, hW.a16, hW.a18, (fun _ _ => ⟨w.heap.size, rfl, by show Blk _ _ _ #[u 44]; rw [e44]; exact kb⟩), hW.a25⟩⟩
        · have d15 : D 15 = true := hn 15 (needs_b (by kernel_rfl))
          have d19 : D 19 = true := hn 19 (needs_b (by kernel_rfl))
          have d18 : D 18 = true := hn 18 (needs_b (by kernel_rfl))
          have d11 : D 11 = true := hcl 18 11 d18 (needs_b (by kernel_rfl))
          have e41 := hT.s15 d15
          obtain ⟨b, e45, kb⟩ := hW.a19 d19 hD
          have hOL := hW.k0 hD
          have n32 : D 32 = false := by
            cases q : D 32 with
            | false => rfl
            | true => have := hcl 32 20 q (needs_b (by kernel_rfl)); rw [hD] at this; cases this
          refine wpOp_step rfl rfl (step_append_ob2 rfl (.tmp 41) (.tmp 45) rfl w0.heap.size vK X e41 hOL b 1 e45 (u 44) (kb.cell 0) p (hW.a18 d18) (by have := hX; omega) hW.bel.size ?_)
          intro v2 w2 hx hb2 hg2 hq2
          have ho := Only.of_grownO hg2
          have typ : ∀ g ∈ vK.ownBlock.toList, ∃ cur, Blk w g 29 cur := fun g hg => by
            obtain ⟨vs, h1, _⟩ := hOL
            exact owns_blk h1 (by simpa using hg)
          have h8 : ∀ g ∈ vK.ownBlock.toList, ∀ cur, ¬ Blk w g 5 cur := fun g hg cur e => by
            obtain ⟨cur2, k2⟩ := typ g hg
            exact Blk.ne_ e k2 (by decide) rfl
          have hbo : ∀ g ∈ vK.ownBlock.toList, ∀ cur, ¬ Blk w g 4 cur := fun g hg cur e => by
            obtain ⟨cur2, k2⟩ := typ g hg
            exact Blk.ne_ e k2 (by decide) rfl
          have hyn : w0.heap.size ∉ vK.ownBlock.toList := fun hm => by
            obtain ⟨cur2, k2⟩ := typ _ hm
            exact Blk.ne_ hW.blk k2 (by decide) rfl
          have hsp : ∀ g, (u 37).ownBlock = some g → g ∉ vK.ownBlock.toList := fun g hg hm => hW.sep g (by rw [d11]; exact hg) (by rw [hD]; simpa using hm)
          have hws : ∀ (v : Value) n xs, w.ownsRow w0.heap.size 4 1 v n xs → w2.ownsRow w0.heap.size 4 1 v n xs := fun v n xs q => ho.owns q fun g hg hm => by
            obtain ⟨cur, k⟩ := owns_blk q hg
            exact hbo g hm cur k
          have hsep2 : ∀ g, (cond (D 11) (u 37) vL).ownBlock = some g → v2.ownBlock ≠ some g := fun g h2 h1 => by
            rw [d11] at h2
            rcases hq2 g h1 with h3 | h3
            · exact hW.sep g (by rw [d11]; exact h2) (by rw [hD]; exact h3)
            · obtain ⟨vs, h5, _⟩ := hW.l1 d11
              obtain ⟨cur, k⟩ := owns_blk h5 h2
              have := k.lt
              omega
          exact ⟨upd u 46 v2, rfl, ⟨fun h => hT.s0 h, fun h => hT.s1 h, fun h => hT.s2 h, fun h => hT.s3 h, fun h => hT.s4 h, fun h => hT.s5 h, fun h => hT.s6 h, fun h => hT.s8 h, fun h => hT.s12 h, fun h => hT.s13 h, fun h => hT.s14 h, fun h => hT.s15 h, fun h => hT.s17 h, fun h => hT.s21 h, fun h => hT.s22 h, fun h => hT.s23 h, fun h => hT.s24 h, fun h => hT.s27 h, fun h => hT.s28 h, fun h => hT.s30 h, fun h => hT.s31 h, fun h => hT.s33 h, fun h => hT.s34 h⟩, ⟨(by have h := ho.blk hW.blk hyn; rw [n32] at h; show Blk _ _ _ #[_, cond (D 32) v2 vK, _, _, _, _]; rw [n32]; exact h), (hW.bel.trans hb2), (fun q => by rw [show D 11 = false from q] at d11; cases d11), (fun q => (hW.l1 q).keepR ho h8 hsp), (fun q => by cases q), (fun _ => hx), (fun q => hws _ _ _ (hW.w0 q)), (fun q => hws _ _ _ (hW.w1 q)), (hsep2), hW.a7, (fun q => (hW.a9 q).only ho h8), (fun _ q => by rw [show D 11 = false from q] at d11; cases d11), hW.a16, (fun q => (hW.a18 q).only ho h8), (fun _ q => by cases q), (fun q r => by obtain ⟨b2, e2, k2⟩ := hW.a25 q r; exact ⟨b2, e2, ho.blk k2 (fun hm => hbo _ hm _ k2)⟩)⟩⟩
        · refine wpOp_plain rfl rfl ?_
          go_simp
          exact ⟨upd u 47 (.pointer (some ⟨w0.heap.size, 0, none⟩)), rfl, ⟨fun h => hT.s0 h, fun h => hT.s1 h, fun h => hT.s2 h, fun h => hT.s3 h, fun h => hT.s4 h, fun h => hT.s5 h, fun h => hT.s6 h, fun h => hT.s8 h, fun h => hT.s12 h, fun h => hT.s13 h, fun h => hT.s14 h, fun h => hT.s15 h, fun h => hT.s17 h, fun _ => rfl, fun h => hT.s22 h, fun h => hT.s23 h, fun h => hT.s24 h, fun h => hT.s27 h, fun h => hT.s28 h, fun h => hT.s30 h, fun h => hT.s31 h, fun h => hT.s33 h, fun h => hT.s34 h⟩, ⟨hW.blk, hW.bel, hW.l0, hW.l1, hW.k0, hW.k1, hW.w0, hW.w1, hW.sep, hW.a7, hW.a9, hW.a10, hW.a16, hW.a18, hW.a19, hW.a25⟩⟩
        · have d21 : D 21 = true := hn 21 (needs_b (by kernel_rfl))
          have e47 := hT.s21 d21
          refine wpOp_plain rfl rfl ?_
          go_simp
          exact ⟨upd u 48 (.pointer (some ⟨w0.heap.size, 0, none⟩)), by first | rfl | simp [upd, e47], ⟨fun h => hT.s0 h, fun h => hT.s1 h, fun h => hT.s2 h, fun h => hT.s3 h, fun h => hT.s4 h, fun h => hT.s5 h, fun h => hT.s6 h, fun h => hT.s8 h, fun h => hT.s12 h, fun h => hT.s13 h, fun h => hT.s14 h, fun h => hT.s15 h, fun h => hT.s17 h, fun h => hT.s21 h, fun _ => rfl, fun h => hT.s23 h, fun h => hT.s24 h, fun h => hT.s27 h, fun h => hT.s28 h, fun h => hT.s30 h, fun h => hT.s31 h, fun h => hT.s33 h, fun h => hT.s34 h⟩, ⟨hW.blk, hW.bel, hW.l0, hW.l1, hW.k0, hW.k1, hW.w0, hW.w1, hW.sep, hW.a7, hW.a9, hW.a10, hW.a16, hW.a18, hW.a19, hW.a25⟩⟩
        · have d22 : D 22 = true := hn 22 (needs_b (by kernel_rfl))
          have e48 := hT.s22 d22
          refine wpOp_plain rfl rfl ?_
          go_simp
          exact ⟨upd u 49 (.pointer (some ⟨w0.heap.size, 2, none⟩)), by first | rfl | simp [upd, e48], ⟨fun h => hT.s0 h, fun h => hT.s1 h, fun h => hT.s2 h, fun h => hT.s3 h, fun h => hT.s4 h, fun h => hT.s5 h, fun h => hT.s6 h, fun h => hT.s8 h, fun h => hT.s12 h, fun h => hT.s13 h, fun h => hT.s14 h, fun h => hT.s15 h, fun h => hT.s17 h, fun h => hT.s21 h, fun h => hT.s22 h, fun _ => rfl, fun h => hT.s24 h, fun h => hT.s27 h, fun h => hT.s28 h, fun h => hT.s30 h, fun h => hT.s31 h, fun h => hT.s33 h, fun h => hT.s34 h⟩, ⟨hW.blk, hW.bel, hW.l0, hW.l1, hW.k0, hW.k1, hW.w0, hW.w1, hW.sep, hW.a7, hW.a9, hW.a10, hW.a16, hW.a18, hW.a19, hW.a25⟩⟩
        · have d23 : D 23 = true := hn 23 (needs_b (by kernel_rfl))
          have e49 := hT.s23 d23
          have n1 : D 35 = false := by
            cases q : D 35 with
            | false => rfl
            | true => have := hcl 26 24 (hcl 35 26 q (needs_b (by kernel_rfl))) (needs_b (by kernel_rfl)); rw [hD] at this; cases this
          have c0 : w.cell? ⟨w0.heap.size, 2, none⟩ = some vW := (hW.blk.cell 2).trans (by simp [n1])
          refine wpOp_plain rfl rfl ?_
          go_simp
          exact ⟨upd u 50 (vW), by first | rfl | simp [upd, e49], ⟨fun h => hT.s0 h, fun h => hT.s1 h, fun h => hT.s2 h, fun h => hT.s3 h, fun h => hT.s4 h, fun h => hT.s5 h, fun h => hT.s6 h, fun h => hT.s8 h, fun h => hT.s12 h, fun h => hT.s13 h, fun h => hT.s14 h, fun h => hT.s15 h, fun h => hT.s17 h, fun h => hT.s21 h, fun h => hT.s22 h, fun h => hT.s23 h, fun _ => rfl, fun h => hT.s27 h, fun h => hT.s28 h, fun h => hT.s30 h, fun h => hT.s31 h, fun h => hT.s33 h, fun h => hT.s34 h⟩, ⟨hW.blk, hW.bel, hW.l0, hW.l1, hW.k0, hW.k1, hW.w0, hW.w1, hW.sep, hW.a7, hW.a9, hW.a10, hW.a16, hW.a18, hW.a19, hW.a25⟩⟩
        · refine wpOp_plain rfl rfl ?_
          go_simp
          have hb2 : Below w.heap.size w (w.alloc (.cells #[.bool false] 4)) := (Below.refl _ _).alloc (Nat.le_refl _) _
          have kb := Blk.new w 4 #[.bool false]
          have hW := hW.below hb2
          exact ⟨upd u 51 (.slice (some ⟨w.heap.size, 0, none⟩) 1 1), rfl, ⟨fun h => hT.s0 h, fun h => hT.s1 h, fun h => hT.s2 h, fun h => hT.s3 h, fun h => hT.s4 h, fun h => hT.s5 h, fun h => hT.s6 h, fun h => hT.s8 h, fun h => hT.s12 h, fun h => hT.s13 h, fun h => hT.s14 h, fun h => hT.s15 h, fun h => hT.s17 h, fun h => hT.s21 h, fun h => hT.s22 h, fun h => hT.s23 h, fun h => hT.s24 h, fun h => hT.s27 h, fun h => hT.s28 h, fun h => hT.s30 h, fun h => hT.s31 h, fun h => hT.s33 h, fun h => hT.s34 h⟩, ⟨hW.blk, hW.bel, hW.l0, hW.l1, hW.k0, hW.k1, hW.w0, hW.w1, hW.sep, hW.a7, hW.a9, hW.a10, hW.a16, hW.a18, hW.a19, (fun _ _ => ⟨w.heap.size, rfl, kb⟩)⟩⟩
        · have d24 : D 24 = true := hn 24 (needs_b (by kernel_rfl))
          have d25 : D 25 = true := hn 25 (needs_b (by kernel_rfl))
          have e50 := hT.s24 d24
          obtain ⟨b, e51, kb⟩ := hW.a25 d25 hD
          have hOL := hW.w0 hD
          have n35 : D 35 = false := by
            cases q : D 35 with
            | false => rfl
            | true => have := hcl 35 26 q (needs_b (by kernel_rfl)); rw [hD] at this; cases this
          refine wpOp_step rfl rfl (step_append_false rfl (.tmp 50) (.tmp 51) rfl w0.heap.size vW k _ e50 hOL b e51 (kb.cell 0) (by omega) hW.bel.size ?_)
          intro v2 w2 hx hg2
          have ho := Only.of_grownO hg2
          have hb2 : Below w0.heap.size w w2 := (Below.refl _ _).grown hg2 hW.bel.size (fun k hk => (hOL.lt k hk).1)
          have typ : ∀ g ∈ vW.ownBlock.toList, ∃ cur, Blk w g 4 cur := fun g hg => owns_blk hOL (by simpa using hg)
          have h8 : ∀ g ∈ vW.ownBlock.toList, ∀ cur, ¬ Blk w g 5 cur ∧ ¬ Blk w g 29 cur := fun g hg cur => by
            obtain ⟨cur2, k2⟩ := typ g hg
            exact ⟨fun e => Blk.ne_ e k2 (by decide) rfl, fun e => Blk.ne_ e k2 (by decide) rfl⟩
          have hyn : w0.heap.size ∉ vW.ownBlock.toList := fun hm => by
            obtain ⟨cur2, k2⟩ := typ _ hm
            exact Blk.ne_ hW.blk k2 (by decide) rfl
          exact ⟨upd u 52 v2, rfl, ⟨fun h => hT.s0 h, fun h => hT.s1 h, fun h => hT.s2 h, fun h => hT.s3 h, fun h => hT.s4 h, fun h => hT.s5 h, fun h => hT.s6 h, fun h => hT.s8 h, fun h => hT.s12 h, fun h => hT.s13 h, fun h => hT.s14 h, fun h => hT.s15 h, fun h => hT.s17 h, fun h => hT.s21 h, fun h => hT.s22 h, fun h => hT.s23 h, fun h => hT.s24 h, fun h => hT.s27 h, fun h => hT.s28 h, fun h => hT.s30 h, fun h => hT.s31 h, fun h => hT.s33 h, fun h => hT.s34 h⟩, ⟨(by have h := ho.blk hW.blk hyn; rw [n35] at h; show Blk _ _ _ #[_, _, cond (D 35) v2 vW, _, _, _]; rw [n35]; exact h), (hW.bel.trans hb2), (fun q => (hW.l0 q).only ho h8), (fun q => (hW.l1 q).only ho h8), (fun q => (hW.k0 q).only ho h8), (fun q => (hW.k1 q).only ho h8), (fun q => by cases q), (fun _ => hx), hW.sep, hW.a7, (fun q => (hW.a9 q).only ho fun g hg cur => (h8 g hg cur).1), (fun q r => by obtain ⟨b2, e2, k2⟩ := hW.a10 q r; exact ⟨b2, e2, ho.blk k2 (fun hm => (h8 _ hm _).2 k2)⟩), hW.a16, (fun q => (hW.a18 q).only ho fun g hg cur => (h8 g hg cur).1), (fun q r => by obtain ⟨b2, e2, k2⟩ := hW.a19 q r; exact ⟨b2, e2, ho.blk k2 (fun hm => (h8 _ hm _).2 k2)⟩), (fun _ q => by cases q)⟩⟩
        · have d0 : D 0 = true := hn 0 (needs_b (by kernel_rfl))
          have e26 := hT.s0 d0
          refine wpOp_plain rfl rfl ?_
          go_simp
          exact ⟨upd u 53 (.pointer (some ⟨w0.heap.size, 0, none⟩)), by first | rfl | simp [upd, e26], ⟨fun h => hT.s0 h, fun h => hT.s1 h, fun h => hT.s2 h, fun h => hT.s3 h, fun h => hT.s4 h, fun h => hT.s5 h, fun h => hT.s6 h, fun h => hT.s8 h, fun h => hT.s12 h, fun h => hT.s13 h, fun h => hT.s14 h, fun h => hT.s15 h, fun h => hT.s17 h, fun h => hT.s21 h, fun h => hT.s22 h, fun h => hT.s23 h, fun h => hT.s24 h, fun _ => rfl, fun h => hT.s28 h, fun h => hT.s30 h, fun h => hT.s31 h, fun h => hT.s33 h, fun h => hT.s34 h⟩, ⟨hW.blk, hW.bel, hW.l0, hW.l1, hW.k0, hW.k1, hW.w0, hW.w1, hW.sep, hW.a7, hW.a9, hW.a10, hW.a16, hW.a18, hW.a19, hW.a25⟩⟩
        · have d27 : D 27 = true := hn 27 (needs_b (by kernel_rfl))
          have e53 := hT.s27 d27
          refine wpOp_plain rfl rfl ?_
          go_simp
          exact ⟨upd u 54 (.pointer (some ⟨w0.heap.size, 0, none⟩)), by first | rfl | simp [upd, e53], ⟨fun h => hT.s0 h, fun h => hT.s1 h, fun h => hT.s2 h, fun h => hT.s3 h, fun h => hT.s4 h, fun h => hT.s5 h, fun h => hT.s6 h, fun h => hT.s8 h, fun h => hT.s12 h, fun h => hT.s13 h, fun h => hT.s14 h, fun h => hT.s15 h, fun h => hT.s17 h, fun h => hT.s21 h, fun h => hT.s22 h, fun h => hT.s23 h, fun h => hT.s24 h, fun h => hT.s27 h, fun _ => rfl, fun h => hT.s30 h, fun h => hT.s31 h, fun h => hT.s33 h, fun h => hT.s34 h⟩, ⟨hW.blk, hW.bel, hW.l0, hW.l1, hW.k0, hW.k1, hW.w0, hW.w1, hW.sep, hW.a7, hW.a9, hW.a10, hW.a16, hW.a18, hW.a19, hW.a25⟩⟩
        · have d28 : D 28 = true := hn 28 (needs_b (by kernel_rfl))
          have d11 : D 11 = true := hn 11 (needs_b (by kernel_rfl))
          have e54 := hT.s28 d28
          obtain ⟨xa, xn, xc, e37⟩ : ∃ a n c, u 37 = Value.slice a n c := by obtain ⟨a, c, e⟩ := (hW.l1 d11).val; exact ⟨_, _, _, e⟩
          have c0 : w.cell? ⟨w0.heap.size, 0, none⟩ = some vL := (hW.blk.cell 0).trans (by simp [hD])
          have f0 := hW.blk.frozen 0
          have ho : Only [w0.heap.size] w (w.setCell ⟨w0.heap.size, 0, none⟩ (.slice xa xn xc)) := Only.setCell _ _ (by simp) _
          have hbk := hW.blk.set_ 0 (.slice xa xn xc)
          have h8 : ∀ g ∈ [w0.heap.size], ∀ cur, ¬ Blk w g 5 cur ∧ ¬ Blk w g 29 cur := fun g hg cur => by
            obtain rfl : g = w0.heap.size := by simpa using hg
            exact ⟨fun e => Blk.ne_ e hW.blk (by decide) rfl, fun e => Blk.ne_ e hW.blk (by decide) rfl⟩
          have hws : ∀ (v : Value) n xs, w.ownsRow w0.heap.size 4 1 v n xs → (w.setCell ⟨w0.heap.size, 0, none⟩ (.slice xa xn xc)).ownsRow w0.heap.size 4 1 v n xs := fun v n xs q => ho.owns q fun g hg hm => by
            obtain ⟨cur, k⟩ := owns_blk q hg
            obtain rfl : g = w0.heap.size := by simpa using hm
            exact Blk.ne_ k hW.blk (by decide) rfl
          refine wpOp_plain rfl rfl ?_
          go_simp
          exact ⟨u, by first | rfl | simp [e54, e37], ⟨fun h => hT.s0 h, fun h => hT.s1 h, fun h => hT.s2 h, fun h => hT.s3 h, fun h => hT.s4 h, fun h => hT.s5 h, fun h => hT.s6 h, fun h => hT.s8 h, fun h => hT.s12 h, fun h => hT.s13 h, fun h => hT.s14 h, fun h => hT.s15 h, fun h => hT.s17 h, fun h => hT.s21 h, fun h => hT.s22 h, fun h => hT.s23 h, fun h => hT.s24 h, fun h => hT.s27 h, fun h => hT.s28 h, fun h => hT.s30 h, fun h => hT.s31 h, fun h => hT.s33 h, fun h => hT.s34 h⟩, ⟨(by show Blk _ _ _ #[u 37, cond (D 32) (u 46) vK, cond (D 35) (u 52) vW, .int .i64 (-1), .bool false, .int .i64 0]; rw [e37]; exact hbk), (Only.belowOf hW.bel ho hW.bel.size (by simp)), (fun q => (hW.l0 q).only ho h8), (fun q => (hW.l1 q).only ho h8), (fun q => (hW.k0 q).only ho h8), (fun q => (hW.k1 q).only ho h8), (fun q => hws _ _ _ (hW.w0 q)), (fun q => hws _ _ _ (hW.w1 q)), hW.sep, hW.a7, (fun q => (hW.a9 q).only ho fun g hg cur => (h8 g hg cur).1), (fun q r => by obtain ⟨b2, e2, k2⟩ := hW.a10 q r; exact ⟨b2, e2, ho.blk k2 (fun hm => (h8 _ hm _).2 k2)⟩), hW.a16, (fun q => (hW.a18 q).only ho fun g hg cur => (h8 g hg cur).1), (fun q r => by obtain ⟨b2, e2, k2⟩ := hW.a19 q r; exact ⟨b2, e2, ho.blk k2 (fun hm => (h8 _ hm _).2 k2)⟩), (fun q r => by obtain ⟨b2, e2, k2⟩ := hW.a25 q r; exact ⟨b2, e2, ho.blk k2 (fun hm => by obtain rfl : b2 = w0.heap.size := (by simpa using hm); exact Blk.ne_ k2 hW.blk (by decide) rfl)⟩)⟩⟩
        · have d1 : D 1 = true := hn 1 (needs_b (by kernel_rfl))
          have e27 := hT.s1 d1
          refine wpOp_plain rfl rfl ?_
          go_simp
          exact ⟨upd u 55 (.pointer (some ⟨w0.heap.size, 0, none⟩)), by first | rfl | simp [upd, e27], ⟨fun h => hT.s0 h, fun h => hT.s1 h, fun h => hT.s2 h, fun h => hT.s3 h, fun h => hT.s4 h, fun h => hT.s5 h, fun h => hT.s6 h, fun h => hT.s8 h, fun h => hT.s12 h, fun h => hT.s13 h, fun h => hT.s14 h, fun h => hT.s15 h, fun h => hT.s17 h, fun h => hT.s21 h, fun h => hT.s22 h, fun h => hT.s23 h, fun h => hT.s24 h, fun h => hT.s27 h, fun h => hT.s28 h, fun _ => rfl, fun h => hT.s31 h, fun h => hT.s33 h, fun h => hT.s34 h⟩, ⟨hW.blk, hW.bel, hW.l0, hW.l1, hW.k0, hW.k1, hW.w0, hW.w1, hW.sep, hW.a7, hW.a9, hW.a10, hW.a16, hW.a18, hW.a19, hW.a25⟩⟩
        · have d30 : D 30 = true := hn 30 (needs_b (by kernel_rfl))
          have e55 := hT.s30 d30
          refine wpOp_plain rfl rfl ?_
          go_simp
          exact ⟨upd u 56 (.pointer (some ⟨w0.heap.size, 1, none⟩)), by first | rfl | simp [upd, e55], ⟨fun h => hT.s0 h, fun h => hT.s1 h, fun h => hT.s2 h, fun h => hT.s3 h, fun h => hT.s4 h, fun h => hT.s5 h, fun h => hT.s6 h, fun h => hT.s8 h, fun h => hT.s12 h, fun h => hT.s13 h, fun h => hT.s14 h, fun h => hT.s15 h, fun h => hT.s17 h, fun h => hT.s21 h, fun h => hT.s22 h, fun h => hT.s23 h, fun h => hT.s24 h, fun h => hT.s27 h, fun h => hT.s28 h, fun h => hT.s30 h, fun _ => rfl, fun h => hT.s33 h, fun h => hT.s34 h⟩, ⟨hW.blk, hW.bel, hW.l0, hW.l1, hW.k0, hW.k1, hW.w0, hW.w1, hW.sep, hW.a7, hW.a9, hW.a10, hW.a16, hW.a18, hW.a19, hW.a25⟩⟩
        · have d31 : D 31 = true := hn 31 (needs_b (by kernel_rfl))
          have d20 : D 20 = true := hn 20 (needs_b (by kernel_rfl))
          have e56 := hT.s31 d31
          obtain ⟨xa, xn, xc, e46⟩ : ∃ a n c, u 46 = Value.slice a n c := by obtain ⟨a, c, e⟩ := (hW.k1 d20).val; exact ⟨_, _, _, e⟩
          have c0 : w.cell? ⟨w0.heap.size, 1, none⟩ = some vK := (hW.blk.cell 1).trans (by simp [hD])
          have f0 := hW.blk.frozen 1
          have ho : Only [w0.heap.size] w (w.setCell ⟨w0.heap.size, 1, none⟩ (.slice xa xn xc)) := Only.setCell _ _ (by simp) _
          have hbk := hW.blk.set_ 1 (.slice xa xn xc)
          have h8 : ∀ g ∈ [w0.heap.size], ∀ cur, ¬ Blk w g 5 cur ∧ ¬ Blk w g 29 cur := fun g hg cur => by
            obtain rfl : g = w0.heap.size := by simpa using hg
            exact ⟨fun e => Blk.ne_ e hW.blk (by decide) rfl, fun e => Blk.ne_ e hW.blk (by decide) rfl⟩
          have hws : ∀ (v : Value) n xs, w.ownsRow w0.heap.size 4 1 v n xs → (w.setCell ⟨w0.heap.size, 1, none⟩ (.slice xa xn xc)).ownsRow w0.heap.size 4 1 v n xs := fun v n xs q => ho.owns q fun g hg hm => by
            obtain ⟨cur, k⟩ := owns_blk q hg
            obtain rfl : g = w0.heap.size := by simpa using hm
            exact Blk.ne_ k hW.blk (by decide) rfl
          refine wpOp_plain rfl rfl ?_
          go_simp
          exact ⟨u, by first | rfl | simp [e56, e46], ⟨fun h => hT.s0 h, fun h => hT.s1 h, fun h => hT.s2 h, fun h => hT.s3 h, fun h => hT.s4 h, fun h => hT.s5 h, fun h => hT.s6 h, fun h => hT.s8 h, fun h => hT.s12 h, fun h => hT.s13 h, fun h => hT.s14 h, fun h => hT.s15 h, fun h => hT.s17 h, fun h => hT.s21 h, fun h => hT.s22 h, fun h => hT.s23 h, fun h => hT.s24 h, fun h => hT.s27 h, fun h => hT.s28 h, fun h => hT.s30 h, fun h => hT.s31 h, fun h => hT.s33 h, fun h => hT.s34 h⟩, ⟨(by show Blk _ _ _ #[cond (D 29) (u 37) vL, u 46, cond (D 35) (u 52) vW, .int .i64 (-1), .bool false, .int .i64 0]; rw [e46]; exact hbk), (Only.belowOf hW.bel ho hW.bel.size (by simp)), (fun q => (hW.l0 q).only ho h8), (fun q => (hW.l1 q).only ho h8), (fun q => (hW.k0 q).only ho h8), (fun q => (hW.k1 q).only ho h8), (fun q => hws _ _ _ (hW.w0 q)), (fun q => hws _ _ _ (hW.w1 q)), hW.sep, hW.a7, (fun q => (hW.a9 q).only ho fun g hg cur => (h8 g hg cur).1), (fun q r => by obtain ⟨b2, e2, k2⟩ := hW.a10 q r; exact ⟨b2, e2, ho.blk k2 (fun hm => (h8 _ hm _).2 k2)⟩), hW.a16, (fun q => (hW.a18 q).only ho fun g hg cur => (h8 g hg cur).1), (fun q r => by obtain ⟨b2, e2, k2⟩ := hW.a19 q r; exact ⟨b2, e2, ho.blk k2 (fun hm => (h8 _ hm _).2 k2)⟩), (fun q r => by obtain ⟨b2, e2, k2⟩ := hW.a25 q r; exact ⟨b2, e2, ho.blk k2 (fun hm => by obtain rfl : b2 = w0.heap.size := (by simpa using hm); exact Blk.ne_ k2 hW.blk (by decide) rfl)⟩)⟩⟩
        · have d2 : D 2 = true := hn 2 (needs_b (by kernel_rfl))
          have e28 := hT.s2 d2
          refine wpOp_plain rfl rfl ?_
          go_simp
          exact ⟨upd u 57 (.pointer (some ⟨w0.heap.size, 0, none⟩)), by first | rfl | simp [upd, e28], ⟨fun h => hT.s0 h, fun h => hT.s1 h, fun h => hT.s2 h, fun h => hT.s3 h, fun h => hT.s4 h, fun h => hT.s5 h, fun h => hT.s6 h, fun h => hT.s8 h, fun h => hT.s12 h, fun h => hT.s13 h, fun h => hT.s14 h, fun h => hT.s15 h, fun h => hT.s17 h, fun h => hT.s21 h, fun h => hT.s22 h, fun h => hT.s23 h, fun h => hT.s24 h, fun h => hT.s27 h, fun h => hT.s28 h, fun h => hT.s30 h, fun h => hT.s31 h, fun _ => rfl, fun h => hT.s34 h⟩, ⟨hW.blk, hW.bel, hW.l0, hW.l1, hW.k0, hW.k1, hW.w0, hW.w1, hW.sep, hW.a7, hW.a9, hW.a10, hW.a16, hW.a18, hW.a19, hW.a25⟩⟩
        · have d33 : D 33 = true := hn 33 (needs_b (by kernel_rfl))
          have e57 := hT.s33 d33
          refine wpOp_plain rfl rfl ?_
          go_simp
          exact ⟨upd u 58 (.pointer (some ⟨w0.heap.size, 2, none⟩)), by first | rfl | simp [upd, e57], ⟨fun h => hT.s0 h, fun h => hT.s1 h, fun h => hT.s2 h, fun h => hT.s3 h, fun h => hT.s4 h, fun h => hT.s5 h, fun h => hT.s6 h, fun h => hT.s8 h, fun h => hT.s12 h, fun h => hT.s13 h, fun h => hT.s14 h, fun h => hT.s15 h, fun h => hT.s17 h, fun h => hT.s21 h, fun h => hT.s22 h, fun h => hT.s23 h, fun h => hT.s24 h, fun h => hT.s27 h, fun h => hT.s28 h, fun h => hT.s30 h, fun h => hT.s31 h, fun h => hT.s33 h, fun _ => rfl⟩, ⟨hW.blk, hW.bel, hW.l0, hW.l1, hW.k0, hW.k1, hW.w0, hW.w1, hW.sep, hW.a7, hW.a9, hW.a10, hW.a16, hW.a18, hW.a19, hW.a25⟩⟩
        · have d34 : D 34 = true := hn 34 (needs_b (by kernel_rfl))
          have d26 : D 26 = true := hn 26 (needs_b (by kernel_rfl))
          have e58 := hT.s34 d34
          obtain ⟨xa, xn, xc, e52⟩ := (Sl.of_owns (hW.w1 d26)).val
          have c0 : w.cell? ⟨w0.heap.size, 2, none⟩ = some vW := (hW.blk.cell 2).trans (by simp [hD])
          have f0 := hW.blk.frozen 2
          have ho : Only [w0.heap.size] w (w.setCell ⟨w0.heap.size, 2, none⟩ (.slice xa xn xc)) := Only.setCell _ _ (by simp) _
          have hbk := hW.blk.set_ 2 (.slice xa xn xc)
          have h8 : ∀ g ∈ [w0.heap.size], ∀ cur, ¬ Blk w g 5 cur ∧ ¬ Blk w g 29 cur := fun g hg cur => by
            obtain rfl : g = w0.heap.size := by simpa using hg
            exact ⟨fun e => Blk.ne_ e hW.blk (by decide) rfl, fun e => Blk.ne_ e hW.blk (by decide) rfl⟩
          have hws : ∀ (v : Value) n xs, w.ownsRow w0.heap.size 4 1 v n xs → (w.setCell ⟨w0.heap.size, 2, none⟩ (.slice xa xn xc)).ownsRow w0.heap.size 4 1 v n xs := fun v n xs q => ho.owns q fun g hg hm => by
            obtain ⟨cur, k⟩ := owns_blk q hg
            obtain rfl : g = w0.heap.size := by simpa using hm
            exact Blk.ne_ k hW.blk (by decide) rfl
          refine wpOp_plain rfl rfl ?_
          go_simp
          exact ⟨u, by first | rfl | simp [e58, e52], ⟨fun h => hT.s0 h, fun h => hT.s1 h, fun h => hT.s2 h, fun h => hT.s3 h, fun h => hT.s4 h, fun h => hT.s5 h, fun h => hT.s6 h, fun h => hT.s8 h, fun h => hT.s12 h, fun h => hT.s13 h, fun h => hT.s14 h, fun h => hT.s15 h, fun h => hT.s17 h, fun h => hT.s21 h, fun h => hT.s22 h, fun h => hT.s23 h, fun h => hT.s24 h, fun h => hT.s27 h, fun h => hT.s28 h, fun h => hT.s30 h, fun h => hT.s31 h, fun h => hT.s33 h, fun h => hT.s34 h⟩, ⟨(by show Blk _ _ _ #[cond (D 29) (u 37) vL, cond (D 32) (u 46) vK, u 52, .int .i64 (-1), .bool false, .int .i64 0]; rw [e52]; exact hbk), (Only.belowOf hW.bel ho hW.bel.size (by simp)), (fun q => (hW.l0 q).only ho h8), (fun q => (hW.l1 q).only ho h8), (fun q => (hW.k0 q).only ho h8), (fun q => (hW.k1 q).only ho h8), (fun q => hws _ _ _ (hW.w0 q)), (fun q => hws _ _ _ (hW.w1 q)), hW.sep, hW.a7, (fun q => (hW.a9 q).only ho fun g hg cur => (h8 g hg cur).1), (fun q r => by obtain ⟨b2, e2, k2⟩ := hW.a10 q r; exact ⟨b2, e2, ho.blk k2 (fun hm => (h8 _ hm _).2 k2)⟩), hW.a16, (fun q => (hW.a18 q).only ho fun g hg cur => (h8 g hg cur).1), (fun q r => by obtain ⟨b2, e2, k2⟩ := hW.a19 q r; exact ⟨b2, e2, ho.blk k2 (fun hm => (h8 _ hm _).2 k2)⟩), (fun q r => by obtain ⟨b2, e2, k2⟩ := hW.a25 q r; exact ⟨b2, e2, ho.blk k2 (fun hm => by obtain rfl : b2 = w0.heap.size := (by simpa using hm); exact Blk.ne_ k2 hW.blk (by decide) rfl)⟩)⟩⟩
      case fin =>
        intro D a w hI hall
        obtain ⟨u, rfl, hT, hW⟩ := hI
        have hbk := hW.blk
        rw [hall 29 (by decide), hall 32 (by decide), hall 35 (by decide)] at hbk
        have hl1 := hW.l1 (hall 11 (by decide))
        have hk1 := hW.k1 (hall 20 (by decide))
        have hw1 := hW.w1 (hall 26 (by decide))
        have hsp := hW.sep
        rw [hall 11 (by decide), hall 20 (by decide)] at hsp
        rw [ht] at hl1 hk1
        have hrep : List.replicate k (Value.bool false) ++ [.bool false] = List.replicate (k + 1) (.bool false) := by rw [List.replicate_succ']
        rw [hrep] at hw1
        have HF := Lib.hid (show Blk w w0.heap.size 87 #[u 37, u 46, u 52, .int .i64 (-1), .bool false, .int .i64 0] ∧ OBs w w0.heap.size (u 37) (pss.take (k + 1)) ∧ OBs w w0.heap.size (u 46) (pss.take (k + 1)) ∧ w.ownsRow w0.heap.size 4 1 (u 52) (k + 1) (List.replicate (k + 1) (.bool false)) ∧ (∀ g, (u 37).ownBlock = some g → (u 46).ownBlock ≠ some g) ∧ Below w0.heap.size w0 w from ⟨hbk, hl1, hk1, hw1, hsp, hW.bel⟩)
        clear hbk hl1 hk1 hw1 hsp hW hT hrep hall
        go_wp2
        exact ⟨⟨k + 1, u 37, u 46, u 52, hlt, by go_num, HF.out.1, HF.out.2.1, HF.out.2.2.1, HF.out.2.2.2.1, HF.out.2.2.2.2.1, HF.out.2.2.2.2.2, (by rw [← HT.out]; intro q hq; rcases List.mem_append.1 hq with hq | hq; exact H64.out q hq; rw [List.mem_singleton.1 hq]; exact HP.out)⟩, by simp [intOf]; omega⟩
    · obtain rfl : k = pss.length := by omega
      have hkI : ¬ (pss.length : Int) < (pss.length : Int) := by omega
      rw [List.take_length] at h64
      obtain ⟨p, hp, hq⟩ := HH.out
      exact absurd (h64 p hp) hq

end Go.Proofs.Yteaimjfpmacgeaa