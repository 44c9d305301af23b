/- The walk of the reference's Split. -/
import Derived.Test.YtpdajglcpkfonaaSplit
namespace Go.Proofs.Ytpdajglcpkfonaa
open Go.RowKit
set_option linter.unusedVariables false

theorem info8s : (Try.prog.info? 5).map (fun i => (i.zero, i.size, i.bytes)) = some (some (.int .u8 0), 1, 1) := by kernel_rfl

set_option maxHeartbeats 1000000 in
theorem refSplit_any (v : Value) (bs : List Int) (w : World) (hn : bs.length ≤ 1048576) (hB : IsB bs) (hs : Sl w v (bs.map (Value.int .u8))) :
    Calls Try.prog 15 #[v] w fun e w' => ∃ l, e = .returned (.tuple #[.int .i64 (tagS bs), l, .int .i64 (codeS bs)]) ∧ Sls w' l (partsS bs) ∧ Below w.heap.size w w' := by
  obtain ⟨a, cap, rfl, hc, hm⟩ := hs.shape
  rw [List.length_map] at *
  by_cases h0 : bs.length = 0
  · obtain rfl : bs = [] := List.length_eq_zero_iff.1 h0
    go_enter Try.func15, Try.ntmps15
    go_wp2
    go_ret3
    exact ⟨_, rfl, ⟨[], Sl.nil w, rfl, fun i u bs hu _ => by simp at hu⟩, Below.refl _ _⟩
  · obtain ⟨t, r, rfl⟩ : ∃ t r, bs = t :: r := by cases bs with | nil => exact absurd rfl h0 | cons t r => exact ⟨t, r, rfl⟩
    obtain ⟨b, off, rfl, hbl, hcell⟩ := hs.addr (by simp)
    have ht0 : w.cell? ⟨b, off, none⟩ = some (.int .u8 t) := by have := hcell 0 (.int .u8 t) (by simp); simpa using this
    have HB := Lib.hid (fun x (hx : x ∈ r) => hB x (by simp [hx]))
    have HT := Lib.hid (hB t (by simp))
    simp only [List.length_cons] at hc hs h0 hn ⊢
    have hI0 : ¬ ((r.length : Int) + 1 = 0) := by omega
    have hI1 : (1 : Int) ≤ (r.length : Int) + 1 := by omega
    have HN := Lib.hid hn
    clear hcell hB hn
    go_enter Try.func15, Try.ntmps15
    go_wp2_with (refine wpList_from rfl _ _ 23 5 rfl Try.underlying23 size8 _ 1 _ rfl hs rfl (by simp) ?_)
    intro ad1 cap1 hd
    go_wp2
    go_loopw [5, 6] (fun p b wr => ∃ (ps : List (List Int)) (r' : List Int) (pv bv : Value), pv = p ∧ bv = b ∧ Sl wr bv (r'.map (Value.int .u8)) ∧ OSls wr w.heap.size pv ps ∧ Hid (spl r = (spl r').map (ps ++ ·)) ∧ Hid (IsB r') ∧ Hid (ps.length + r'.length ≤ r.length) ∧ Below w.heap.size w wr) (fun _ b _ => lenOf b)
    case atStart => exact ⟨[], r, _, _, rfl, rfl, hd, OSls.nil _ _, Lib.hid (by simp), Lib.hid HB.out, Lib.hid (by simp), Below.refl _ _⟩
    case round =>
      obtain ⟨ps, r', pv, bv, rfl, rfl, hb, hO, hspl, hBr, hlr, hbr⟩ := hrel
      obtain ⟨a1, c1, rfl, hc1, hm1⟩ := hb.shape
      obtain ⟨pa, pc, rfl⟩ := hO.val
      have ht0 : wr.cell? ⟨b, off, none⟩ = some (.int .u8 t) := (hbr.cell (p := ⟨b, off, none⟩) hbl).trans ht0
      simp only [List.length_map] at hc1 hb ⊢
      match r', hb, hspl, hBr, hlr, hc1 with
      | [], hb, hspl, hBr, hlr, hc1 =>
        have HE := Lib.hid (show tagS (t :: r) = t ∧ codeS (t :: r) = 0 ∧ partsS (t :: r) = ps by
          have := hspl.out
          rw [spl_nil] at this
          simp [tagS, codeS, partsS, this])
        go_wp2
        go_ret3
        exact ⟨_, ret_three (by rw [HE.out.1]; exact wrap_byte t HT.out) HE.out.2.1.symm, by rw [HE.out.2.2]; exact hO.sls, hbr⟩
      | [x], hb, hspl, hBr, hlr, hc1 =>
        have HE := Lib.hid (show tagS (t :: r) = 0 ∧ codeS (t :: r) = 3 ∧ partsS (t :: r) = [] by
          have := hspl.out
          rw [spl_one] at this
          simp [tagS, codeS, partsS, this])
        go_wp2
        go_quiet (fail)
        have hbr := below_drewN hbr nq
        generalize wr.drewN nq = w2 at *
        go_wp2
        go_ret3
        exact ⟨_, ret_three HE.out.1.symm HE.out.2.1.symm, by rw [HE.out.2.2]; exact ⟨[], Sl.nil _, rfl, fun i u bs hu _ => by simp at hu⟩, hbr⟩
      | x :: y :: z, hb, hspl, hBr, hlr, hc1 =>
        obtain ⟨b1, o1, rfl, hbl1, hcell1⟩ := hb.addr (by simp)
        have hx0 : wr.cell? ⟨b1, o1, none⟩ = some (.int .u8 x) := by have := hcell1 0 (.int .u8 x) (by simp); simpa using this
        have hy0 : wr.cell? ⟨b1, o1 + 1, none⟩ = some (.int .u8 y) := hcell1 1 (.int .u8 y) (by simp)
        simp only [List.length_cons] at hc1 hb ⊢
        have hx := hBr.out x (by simp)
        have hy := hBr.out y (by simp)
        have hz1 : ¬ ((z.length : Int) + 1 + 1 < 2) := by omega
        have hz0 : (0 : Int) < (z.length : Int) + 1 + 1 := by omega
        have hzz : (1 : Int) < (z.length : Int) + 1 + 1 := by omega
        clear hcell1
        go_wp2
        go_quiet (fail)
        obtain ⟨N, hN⟩ : ∃ N : Nat, x * 256 + y = N := ⟨(x * 256 + y).toNat, by omega⟩
        have hNn : (x * 256 + y).toNat = N := by omega
        have e1 : IntKind.i64.wrap x = x := by rw [IntKind.wrap_i64]; omega
        have e2 : IntKind.i64.wrap y = y := by rw [IntKind.wrap_i64]; omega
        have e3 : IntKind.i64.wrap (x * 256) = x * 256 := by rw [IntKind.wrap_i64]; omega
        have e4 : IntKind.i64.wrap (x * 256 + y) = N := by rw [IntKind.wrap_i64]; omega
        have e5 : IntKind.i64.wrap ((z.length : Int) + 1 + 1 - 2) = z.length := by rw [IntKind.wrap_i64]; have h1 := hlr.out; have h2 := HN.out; simp at h1; omega
        have e6 : decide ((z.length : Int) + 1 + 1 < 2) = false := by simp; omega
        simp only [e1, e2, e3, e4, e5, e6, Bool.false_or]
        have hbd : Below wr.heap.size wr (wr.drewN nq) := below_drewN (Below.refl _ _) nq
        have hx0 : (wr.drewN nq).cell? ⟨b1, o1, none⟩ = some (.int .u8 x) := (hbd.cell (p := ⟨b1, o1, none⟩) hbl1).trans hx0
        have hy0 : (wr.drewN nq).cell? ⟨b1, o1 + 1, none⟩ = some (.int .u8 y) := (hbd.cell (p := ⟨b1, o1 + 1, none⟩) hbl1).trans hy0
        have hb := hb.below hbd (Nat.le_refl _)
        have hO := hO.below hbd
        have hbr := hbr.trans (hbd.mono hbr.size)
        have hbl1 : b1 < (wr.drewN nq).heap.size := hbl1
        clear hbd ht0 e5 e6 hz1
        generalize wr.drewN nq = w2 at *
        by_cases hNz : N ≤ z.length
        · have e7 : decide ((z.length : Int) < (N : Int)) = false := by simp; omega
          rw [e7]
          clear e7
          go_wp2
          go_quiet (fail)
          rw [show 2 + x * 256 + y = ((N + 2 : Nat) : Int) by omega]
          have hbd : Below w2.heap.size w2 (w2.drewN nq) := below_drewN (Below.refl _ _) nq
          have hb := hb.below hbd (Nat.le_refl _)
          have hO := hO.below hbd
          have hbr := hbr.trans (hbd.mono hbr.size)
          have hlt : (z.take N).length ≤ 1048576 := by
            have h1 := hlr.out; have h2 := HN.out
            rw [List.length_take]; simp at h1; omega
          have HSP : Hid (spl r = (spl (z.drop N)).map ((ps ++ [z.take N]) ++ ·)) := by
            have := hspl.out
            rw [spl_go x y z (by omega), hNn] at this
            rw [this, Option.map_map]
            congr 1
            funext q
            simp
          have HL1 : Hid (ps.length + 1 ≤ 5000000000000) := by
            have h1 := hlr.out; have h2 := HN.out
            simp at h1; exact (by omega : ps.length + 1 ≤ 5000000000000)
          have HL2 : Hid ((ps ++ [z.take N]).length + (z.drop N).length ≤ r.length) := by
            have h1 := hlr.out
            show _ ≤ _
            simp at h1 ⊢; omega
          have HB2 : Hid (IsB (z.drop N)) := fun q hq => hBr.out q (by simp [List.mem_of_mem_drop hq])
          have HML : Hid (z.length - N < z.length + 1 + 1) := (by omega : z.length - N < z.length + 1 + 1)
          have HNz := Lib.hid hNz
          have HLT := Lib.hid hlt
          clear hbd hx0 hy0 hx hy e1 e2 e3 e4 hN hNn hspl hlt hNz hz0 hzz hm1 hc1
          generalize w2.drewN nq = w3 at *
          have hbE : Below w3.heap.size w3 (w3.alloc (.cells #[] 5)) := (Below.refl _ _).alloc (Nat.le_refl _) _
          have hown0 : (w3.alloc (.cells #[] 5)).ownsRow w3.heap.size 5 1 (.slice (some ⟨w3.heap.size, 0, none⟩) 0 0) 0 [] :=
            World.ownsRow_lit (base := w3.heap.size) (e := 5) (size := 1) w3 #[] 0 (Nat.le_refl _) (by simp [maxLen]) (by simp)
          have hbO := hb
          have hb := hb.below hbE (Nat.le_refl _)
          obtain ⟨i0, hi, hz0, hz1, hz2⟩ := info_parts info8s
          go_wp2_with (refine wpList_part rfl _ _ _ 23 5 rfl Try.underlying23 size8 _ 2 (N + 2) _ rfl hb rfl rfl (by omega) (by have := HNz.out; simp; omega) ?_)
          intro a3 c3 hp
          rw [← List.map_take] at hp
          clear hb
          go_wp2_with (at_builtin; refine wpList_append_sl rfl _ _ 23 rfl w3.heap.size 5 i0 (.int .u8 0) 1 Try.underlying23 hi hz0 hz1 hz2 rfl _ 0 [] rfl hown0 (.slice a3 N c3) ((z.take N).map (Value.int .u8)) rfl hp (one8 _) (by have := HLT.out; rw [List.length_map]; unfold maxLen; omega) (by have := HLT.out; rw [List.length_map]; omega) (by simp) ?_)
          intro cv w4 hown4 hg4
          have hb4 := below_grown hbE hown0 (Nat.le_refl _) (by simp) hg4
          have hcv : Sl w4 cv ((z.take N).map (Value.int .u8)) := by simpa using Sl.of_owns hown4
          obtain ⟨ca, cn, cc, rfl⟩ := hcv.val
          have hb2 := hbO.below hb4 (Nat.le_refl _)
          have hO := hO.below hb4
          have hbr := hbr.trans (hb4.mono hbr.size)
          clear hown4 hg4 hp hown0 hbE hbO hb4
          have hbB : Below w4.heap.size w4 (w4.alloc (.cells #[.slice ca cn cc] 23)) := (Below.refl _ _).alloc (Nat.le_refl _) _
          have hO := hO.below hbB
          have hcv := hcv.below hbB (Nat.le_refl _)
          have hb2 := hb2.below hbB (Nat.le_refl _)
          have hbr := hbr.trans (hbB.mono hbr.size)
          have hcc := (Blk.new w4 23 #[.slice ca cn cc]).cell 0
          clear hbB
          go_wp2_with (at_builtin; refine wpList_append_text rfl _ _ rfl w.heap.size _ _ rfl hO w4.heap.size 1 rfl (.slice ca cn cc) hcc _ hcv HL1.out hbr.size ?_)
          intro l5 w5 hO5 hb5 hg5
          have hb2 := hb2.keepO hO hg5
          have hbr := hbr.trans hb5
          clear hg5 hb5 hO hcv hcc
          go_wp2_with (refine wpList_from rfl _ _ 23 5 rfl Try.underlying23 size8 _ (N + 2) (((x :: y :: z)).map (Value.int .u8)) rfl hb2 rfl (by have := HNz.out; simp; omega) ?_)
          intro a6 c6 hb6
          rw [← List.map_drop] at hb6
          clear hb2
          go_wp2
          exact ⟨⟨ps ++ [z.take N], z.drop N, _, _, rfl, rfl, hb6, hO5, HSP, HB2, HL2, hbr⟩, HML.out⟩
        · have e7 : decide ((z.length : Int) < (N : Int)) = true := by simp; omega
          have HE := Lib.hid (show tagS (t :: r) = 0 ∧ codeS (t :: r) = 3 ∧ partsS (t :: r) = [] by
            have := hspl.out
            rw [spl_bad x y z (by omega)] at this
            simp [tagS, codeS, partsS, this])
          rw [e7]
          clear hNn hx hy e1 e2 e3 e4 e7 hN
          go_wp2
          go_ret3
          exact ⟨_, ret_three HE.out.1.symm HE.out.2.1.symm, by rw [HE.out.2.2]; exact ⟨[], Sl.nil _, rfl, fun i u bs hu _ => by simp at hu⟩, hbr⟩

end Go.Proofs.Ytpdajglcpkfonaa
