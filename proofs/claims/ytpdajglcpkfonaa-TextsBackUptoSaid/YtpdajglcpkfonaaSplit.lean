/- The walk of texts.Split. -/
import Derived.Test.YtpdajglcpkfonaaSplitP
import Derived.Test.YtpdajglcpkfonaaOwnT
import Derived.Test.YtpdajglcpkfonaaSlc
import Derived.BigQuiet
import Derived.Deep.QuietTactic
namespace Go.Proofs.Ytpdajglcpkfonaa
open Go.RowKit
set_option linter.unusedVariables false

def lenOf : Value → Nat
  | .slice _ n _ => n
  | _ => 0

theorem ret_three {x : Value} {a1 a2 c1 c2 : Int} (h : a1 = a2) (h2 : c1 = c2) : Ending.returned (.tuple #[.int .i64 a1, x, .int .i64 c1]) = .returned (.tuple #[.int .i64 a2, x, .int .i64 c2]) := by rw [h, h2]
theorem wrap_byte (t : Int) (h : 0 ≤ t ∧ t ≤ 255) : wrap64 t = t := by unfold wrap64; omega

theorem or_byte (x y : Int) (hx : 0 ≤ x ∧ x ≤ 255) (hy : 0 ≤ y ∧ y ≤ 255) : bits BinOp.or IntKind.i64 (x * 256) y = x * 256 + y := by
  obtain ⟨a, rfl⟩ := Int.eq_ofNat_of_zero_le hx.1
  obtain ⟨b, rfl⟩ := Int.eq_ofNat_of_zero_le hy.1
  have e : a * 256 ||| b = a * 256 + b := by
    have := Nat.shiftLeft_add_eq_or_of_lt (b := b) (i := 8) (by omega) a
    rw [Nat.shiftLeft_eq] at this
    exact this.symm
  show IntKind.i64.wrap (((BitVec.ofInt 64 ((a : Int) * 256)) ||| (BitVec.ofInt 64 (b : Int))).toNat : Int) = _
  rw [show (a : Int) * 256 = ((a * 256 : Nat) : Int) by omega, BitVec.ofInt_natCast, BitVec.ofInt_natCast, BitVec.toNat_or, BitVec.toNat_ofNat, BitVec.toNat_ofNat, Nat.mod_eq_of_lt (by omega), Nat.mod_eq_of_lt (by omega), e, IntKind.wrap_i64]
  omega

theorem size8 : (Try.prog.info? 5).map (·.size) = some 1 := by kernel_rfl

theorem Sl.keepO {w w' : World} {v : Value} {bs : List Int} (hs : Sl w v (bs.map (Value.int .u8))) {base : Nat} {r : Value} {pss : List (List Int)} (hown : OSls w base r pss) (hg : w.grownBy w' r.ownBlock) : Sl w' v (bs.map (Value.int .u8)) := by
  obtain ⟨vs, h1, _⟩ := hown
  exact hs.keepK h1 hg

set_option maxHeartbeats 1000000 in
theorem split_any (v : Value) (bs : List Int) (w : World) (hn : bs.length ≤ 1048576) (hB : IsB bs) (hs : Sl w v (bs.map (Value.int .u8))) :
    Calls Try.prog 10 #[v] w fun e w' => ∃ l, e = .returned (.tuple #[.int .i64 (tagS bs), l, .int .i64 (codeS bs)]) ∧ Sls w' l (partsS bs) ∧ Below w.heap.size w w' := by
  obtain ⟨a, cap, rfl, hc, hm⟩ := hs.shape
  rw [List.length_map] at *
  by_cases h0 : bs.length = 0
  · obtain rfl : bs = [] := List.length_eq_zero_iff.1 h0
    go_enter Try.func10, Try.ntmps10
    go_wp2
    go_ret3
    exact ⟨_, rfl, ⟨[], Sl.nil w, rfl, fun i u bs hu _ => by simp at hu⟩, Below.refl _ _⟩
  · obtain ⟨t, r, rfl⟩ : ∃ t r, bs = t :: r := by cases bs with | nil => exact absurd rfl h0 | cons t r => exact ⟨t, r, rfl⟩
    obtain ⟨b, off, rfl, hbl, hcell⟩ := hs.addr (by simp)
    have ht0 : w.cell? ⟨b, off, none⟩ = some (.int .u8 t) := by have := hcell 0 (.int .u8 t) (by simp); simpa using this
    have HB := Lib.hid (fun x (hx : x ∈ r) => hB x (by simp [hx]))
    have HT := Lib.hid (hB t (by simp))
    simp only [List.length_cons] at hc hs h0 hn ⊢
    have hI0 : ¬ ((r.length : Int) + 1 = 0) := by omega
    have hI1 : (1 : Int) ≤ (r.length : Int) + 1 := by omega
    have HN := Lib.hid hn
    clear hcell hB hn
    go_enter Try.func10, Try.ntmps10
    go_wp2_with (refine wpList_from rfl _ _ 23 5 rfl Try.underlying23 size8 _ 1 _ rfl hs rfl (by simp) ?_)
    intro ad1 cap1 hd
    go_wp2
    go_loopw [5, 6] (fun p b wr => ∃ (ps : List (List Int)) (r' : List Int) (pv bv : Value), pv = p ∧ bv = b ∧ Sl wr bv (r'.map (Value.int .u8)) ∧ OSls wr w.heap.size pv ps ∧ Hid (spl r = (spl r').map (ps ++ ·)) ∧ Hid (IsB r') ∧ Hid (ps.length + r'.length ≤ r.length) ∧ Below w.heap.size w wr) (fun _ b _ => lenOf b)
    case atStart => exact ⟨[], r, _, _, rfl, rfl, hd, OSls.nil _ _, Lib.hid (by simp), Lib.hid HB.out, Lib.hid (by simp), Below.refl _ _⟩
    case round =>
      obtain ⟨ps, r', pv, bv, rfl, rfl, hb, hO, hspl, hBr, hlr, hbr⟩ := hrel
      obtain ⟨a1, c1, rfl, hc1, hm1⟩ := hb.shape
      obtain ⟨pa, pc, rfl⟩ := hO.val
      have ht0 : wr.cell? ⟨b, off, none⟩ = some (.int .u8 t) := (hbr.cell (p := ⟨b, off, none⟩) hbl).trans ht0
      simp only [List.length_map] at hc1 hb ⊢
      match r', hb, hspl, hBr, hlr, hc1 with
      | [], hb, hspl, hBr, hlr, hc1 =>
        have HE := Lib.hid (show tagS (t :: r) = t ∧ codeS (t :: r) = 0 ∧ partsS (t :: r) = ps by
          have := hspl.out
          rw [spl_nil] at this
          simp [tagS, codeS, partsS, this])
        go_wp2
        go_ret3
        exact ⟨_, ret_three (by rw [HE.out.1]; exact wrap_byte t HT.out) HE.out.2.1.symm, by rw [HE.out.2.2]; exact hO.sls, hbr⟩
      | [x], hb, hspl, hBr, hlr, hc1 =>
        have HE := Lib.hid (show tagS (t :: r) = 0 ∧ codeS (t :: r) = 3 ∧ partsS (t :: r) = [] by
          have := hspl.out
          rw [spl_one] at this
          simp [tagS, codeS, partsS, this])
        go_wp2
        go_ret3
        exact ⟨_, ret_three HE.out.1.symm HE.out.2.1.symm, by rw [HE.out.2.2]; exact ⟨[], Sl.nil _, rfl, fun i u bs hu _ => by simp at hu⟩, hbr⟩
      | x :: y :: z, hb, hspl, hBr, hlr, hc1 =>
        obtain ⟨b1, o1, rfl, hbl1, hcell1⟩ := hb.addr (by simp)
        have hx0 : wr.cell? ⟨b1, o1, none⟩ = some (.int .u8 x) := by have := hcell1 0 (.int .u8 x) (by simp); simpa using this
        have hy0 : wr.cell? ⟨b1, o1 + 1, none⟩ = some (.int .u8 y) := hcell1 1 (.int .u8 y) (by simp)
        simp only [List.length_cons] at hc1 hb ⊢
        have hx := hBr.out x (by simp)
        have hy := hBr.out y (by simp)
        have hz1 : ¬ ((z.length : Int) + 1 + 1 < 2) := by omega
        have hz0 : (0 : Int) < (z.length : Int) + 1 + 1 := by omega
        have hzz : (1 : Int) < (z.length : Int) + 1 + 1 := by omega
        clear hcell1
        go_wp2
        go_quiet (fail)
        rw [or_byte x y hx hy]
        obtain ⟨N, hN⟩ : ∃ N : Nat, x * 256 + y = N := ⟨(x * 256 + y).toNat, by omega⟩
        have hNn : (x * 256 + y).toNat = N := by omega
        rw [hN]
        have hbd : Below wr.heap.size wr (wr.drewN nq) := below_drewN (Below.refl _ _) nq
        have hb := hb.below hbd (Nat.le_refl _)
        have hO := hO.below hbd
        have hbr := hbr.trans (hbd.mono hbr.size)
        clear hbd hx0 hy0 ht0 hz1 hz0 hzz
        generalize wr.drewN nq = w2 at *
        have hz2 : (2 : Int) ≤ (z.length : Int) + 1 + 1 := by omega
        go_wp2_with (refine wpList_from rfl _ _ 23 5 rfl Try.underlying23 size8 _ 2 _ rfl hb rfl (by simp) ?_)
        intro a2 c2 hb2
        clear hb
        by_cases hNz : N ≤ z.length
        · have hNI : ¬ ((z.length : Int) < (N : Int)) := by omega
          obtain ⟨hq, hlc, hmc⟩ := hb2.len
          clear hq
          have hNc : (N : Int) ≤ (c2 : Int) := by omega
          have hN0 : (0 : Int) ≤ (N : Int) := by omega
          have hst := hb2.take N (by simpa using hNz)
          rw [← List.map_take] at hst
          have hlt : (z.take N).length ≤ 140737488351232 := by
            have h1 := hlr.out; have h2 := HN.out
            rw [List.length_take]; simp at h1; omega
          have HSP : Hid (spl r = (spl (z.drop N)).map ((ps ++ [z.take N]) ++ ·)) := by
            have := hspl.out
            rw [spl_go x y z (by omega), hNn] at this
            rw [this, Option.map_map]
            congr 1
            funext q
            simp
          have HL1 : Hid (ps.length + 1 ≤ 5000000000000) := by
            have h1 := hlr.out; have h2 := HN.out
            simp at h1; exact (by omega : ps.length + 1 ≤ 5000000000000)
          have HL2 : Hid ((ps ++ [z.take N]).length + (z.drop N).length ≤ r.length) := by
            have h1 := hlr.out
            show _ ≤ _
            simp at h1 ⊢; omega
          have HB2 : Hid (IsB (z.drop N)) := fun q hq => hBr.out q (by simp [List.mem_of_mem_drop hq])
          have HML : Hid (z.length - N < z.length + 1 + 1) := (by omega : z.length - N < z.length + 1 + 1)
          have HCL := Lib.hid (sclone_any _ _ w2 hlt hst)
          have HNz := Lib.hid hNz
          clear hst hlt hlc hx hy hNn hspl hN hmc hNz hm1 hc1
          go_wp2_with fail
          refine HCL.out.mono ?_
          rintro e w3 ⟨cv, rfl, hcv, hb3⟩
          obtain ⟨ca, cn, cc, rfl⟩ := hcv.val
          have hO := hO.below hb3
          have hb2 := hb2.below hb3 (Nat.le_refl _)
          have hbr := hbr.trans (hb3.mono hbr.size)
          have hbB : Below w3.heap.size w3 (w3.alloc (.cells #[.slice ca cn cc] 23)) := (Below.refl _ _).alloc (Nat.le_refl _) _
          have hO := hO.below hbB
          have hcv := hcv.below hbB (Nat.le_refl _)
          have hb2 := hb2.below hbB (Nat.le_refl _)
          have hbr := hbr.trans (hbB.mono hbr.size)
          have hcc := (Blk.new w3 23 #[.slice ca cn cc]).cell 0
          clear hbB hb3
          go_wp2_with (at_builtin; refine wpList_append_text rfl _ _ rfl w.heap.size _ _ rfl hO w3.heap.size 1 rfl (.slice ca cn cc) hcc _ hcv HL1.out hbr.size ?_)
          intro l5 w5 hO5 hb5 hg5
          have hb2 := hb2.keepO hO hg5
          have hbr := hbr.trans hb5
          clear hg5 hb5 hO hcv hcc
          go_wp2_with (refine wpList_from rfl _ _ 23 5 rfl Try.underlying23 size8 _ N _ rfl hb2 rfl (by simpa using HNz.out) ?_)
          intro a6 c6 hb6
          rw [← List.map_drop] at hb6
          clear hb2
          go_wp2
          exact ⟨⟨ps ++ [z.take N], z.drop N, _, _, rfl, rfl, hb6, hO5, HSP, HB2, HL2, hbr⟩, HML.out⟩
        · have hNI : (z.length : Int) < (N : Int) := by omega
          have HE := Lib.hid (show tagS (t :: r) = 0 ∧ codeS (t :: r) = 3 ∧ partsS (t :: r) = [] by
            have := hspl.out
            rw [spl_bad x y z (by omega)] at this
            simp [tagS, codeS, partsS, this])
          clear hNn hx hy
          go_wp2
          go_ret3
          exact ⟨_, ret_three HE.out.1.symm HE.out.2.1.symm, by rw [HE.out.2.2]; exact ⟨[], Sl.nil _, rfl, fun i u bs hu _ => by simp at hu⟩, hbr⟩

end Go.Proofs.Ytpdajglcpkfonaa
