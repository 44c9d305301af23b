
/- Trees of signing keys: all hashes are reckoned. Trees of signing keys: the hashes are reckoned once; a hash is told; New, Public. Trees of signing keys: a hash is told; Public; New. Trees of signing keys: the law's awake; keys that no call made. Trees of signing keys: Verify, the reference's; the law of Verify. Signed records: both Checks. Conditions: the texts are bytes. Signed records: the reference's Check, where the record may not be (printed by gen_rchk.py). Conditions: the texts are bytes. Signed records: the reference's Check, where the number is another (printed by gen_rchk.py). Conditions: the texts are bytes. Signed records: the reference's Check. Conditions: the texts are bytes. Signatures as bytes: the reference's Write. Conditions: none. Signed records: the reference's whole and Seal. Conditions: none. Signatures: Same of the reference, of two of one content. -/
import Derived.Test.YtjhannlioddkkaaGreatDoorRs3
import Derived.Deep.RegionHeld3
import Derived.Deep.Cut
import Derived.Test.YtjhannlioddkkaaGreatDoorOnce
import Derived.Test.YtjhannlioddkkaaGreatDoorRs1
import Derived.Test.YtjhannlioddkkaaGreatDoorRs2
import Derived.Deep.QuietTactic
import Derived.BigQuiet
import Derived.WalkSpells
import Derived.Test.YtjhannlioddkkaaGreatDoorInv
import Derived.Deep.RegionLaw
import Derived.Test.YtjhannlioddkkaaGreatDoorBytes
namespace Go.Proofs.YtjhannlioddkkaaGreatDoor
open Go.RowKit
set_option linter.unusedVariables false

def isSlV (v : Value) : Prop := ∃ a n c, v = .slice a n c
/-- What the cells of some keys are. -/
abbrev keyCells (n h : Nat) (sv : Value) (d m : Int) (lv : Value) : Array Value := #[.int .i64 n, .int .i64 h, sv, .int .u32 d, .int .i32 m, .int .u32 0, lv]
theorem keys_noB {n h : Nat} {sv lv : Value} {d m : Int} (h1 : isSlV sv) (h2 : isSlV lv) : ∀ (j : Nat) (x : Int), (keyCells n h sv d m lv)[j]? ≠ some (.int .u8 x) := by
  obtain ⟨_, _, _, rfl⟩ := h1
  obtain ⟨_, _, _, rfl⟩ := h2
  intro j x e
  match j, e with
  | 0, e => simp at e
  | 1, e => simp at e
  | 2, e => simp at e
  | 3, e => simp at e
  | 4, e => simp at e
  | 5, e => simp at e
  | 6, e => simp at e
  | j + 7, e => simp at e
theorem Tabs.keepG {w w' : World} (h : Tabs w) {g : Nat} {t : TypeId} {cs : Array Value} (k : Blk w g t cs) {n : Int} (h0 : cs[0]? = some (.int .i64 n)) (hg : w.grownBy w' (some g)) : Tabs w' := by
  have n0 : 2 ≠ g := by
    rintro rfl
    have := h.first 0 (by omega)
    rw [k.cell, h0] at this
    injection this with this
    injection this with this _
    cases this
  have n1 : 3 ≠ g := by
    rintro rfl
    have := h.added 0 (by omega)
    rw [k.cell, h0] at this
    injection this with this
    injection this with this _
    cases this
  exact ⟨Nat.lt_of_lt_of_le h.lt0 hg.size, Nat.lt_of_lt_of_le h.lt1 hg.size, fun j hj => (hg.cell_far ⟨_, j, none⟩ h.lt0 (by simpa using n0)).trans (h.first j hj), fun j hj => (hg.cell_far ⟨_, j, none⟩ h.lt1 (by simpa using n1)).trans (h.added j hj)⟩

theorem set_onlyG (w : World) (g i : Nat) (u : Value) : w.grownBy (w.setCell ⟨g, i, none⟩ u) (some g) := only_setCell (World.grownBy.refl w (some g)) (Or.inl rfl) u
theorem OSls.get {w : World} {base : Nat} {a : Option Addr} {m cap : Nat} {pss : List (List Int)} (h : OSls w base (.slice a m cap) pss) {k : Nat} (hk : k < pss.length) :
    ∃ b off u, a = some ⟨b, off, none⟩ ∧ b < w.heap.size ∧ w.cell? ⟨b, off + k, none⟩ = some u ∧ Sl w u ((pss.getD k []).map (Value.int .u8)) := by
  obtain ⟨vs, h1, h2⟩ := h
  have hkl : k < vs.length := by rw [h2.len]; exact hk
  obtain ⟨b, off, rfl, hb, hc⟩ := (Sl.of_owns h1.1).addr (by omega)
  have hu : vs[k]? = some vs[k] := List.getElem?_eq_getElem hkl
  refine ⟨b, off, vs[k], rfl, hb, hc k _ hu, ?_⟩
  rw [List.getD_eq_getElem?_getD, List.getElem?_eq_getElem hk]
  exact h2.at k _ _ hu (List.getElem?_eq_getElem hk)

end Go.Proofs.YtjhannlioddkkaaGreatDoor

namespace Go.Proofs.YtjhannlioddkkaaGreatDoor
open Go.RowKit
set_option linter.unusedVariables false

end Go.Proofs.YtjhannlioddkkaaGreatDoor

namespace Go.Proofs.YtjhannlioddkkaaGreatDoor
open Go.RowKit
set_option linter.unusedVariables false

end Go.Proofs.YtjhannlioddkkaaGreatDoor

namespace Go.Proofs.YtjhannlioddkkaaGreatDoor
open Go.RowKit
set_option linter.unusedVariables false

theorem hashT_full (size tag : Int) (pss : List (List Int)) (h0 : 1 ≤ size) (h1 : size ≤ 32) (t0 : 0 ≤ tag) (t1 : tag ≤ 255) (h : ∀ p ∈ pss, p.length ≤ 65535) : (hashT size tag pss).length = size.toNat := by
  have hc : codeT tag pss = 0 := by
    unfold codeT
    rw [if_neg (by omega), if_neg (by rintro ⟨p, hp, hq⟩; have := h p hp; omega)]
  unfold hashT
  rw [if_pos hc]
  unfold cutI
  rw [List.length_take, sumI_len]
  omega
theorem numI_len (n : Int) : (numI n).length = 8 := by simp [numI]
theorem pairT_full (size l p : Int) (x y : List Int) (h0 : 1 ≤ size) (h1 : size ≤ 32) (hx : x.length ≤ 65535) (hy : y.length ≤ 65535) : (pairT size l p x y).length = size.toNat := by
  refine hashT_full size 9 _ h0 h1 (by decide) (by decide) fun q hq => ?_
  simp only [List.mem_cons, List.not_mem_nil, or_false] at hq
  rcases hq with rfl | rfl | rfl | rfl
  · rw [numI_len]; omega
  · rw [numI_len]; omega
  · exact hx
  · exact hy
theorem keyL_full (size : Int) (seed : List Int) (idx : Int) (h0 : 1 ≤ size) (h1 : size ≤ 32) (hs : seed.length ≤ 64) (hi0 : 0 ≤ idx) (hi1 : idx < 256) : (keyL size seed idx).length = size.toNat := by
  unfold keyL
  rw [if_pos (by unfold canB; exact decide_eq_true (by omega))]
  refine hashT_full size 8 _ h0 h1 (by decide) (by decide) fun q hq => ?_
  simp only [List.mem_cons, List.not_mem_nil, or_false] at hq
  rcases hq with rfl | rfl
  · rw [numI_len]; omega
  · have := catI_len (endK_len size seed idx) (4 * size.toNat + 5)
    omega
theorem getD_short {L : List (List Int)} (h : ∀ p ∈ L, p.length ≤ 32) (k : Nat) : (L.getD k []).length ≤ 32 := by
  rw [List.getD_eq_getElem?_getD]
  rcases Nat.lt_or_ge k L.length with hk | hk
  · rw [List.getElem?_eq_getElem hk]; exact h _ (List.getElem_mem _)
  · rw [List.getElem?_eq_none hk]; simp
/-- Every hash of a tree has its size. -/
theorem lvI_full (n : Nat) (seed : List Int) (h : Nat) (h0 : 1 ≤ n) (h1 : n ≤ 32) (hs : seed.length ≤ 64) (hh : h ≤ 8) : ∀ l, ∀ p ∈ lvI n seed h l, p.length = n
  | 0 => by
    intro p hp
    simp only [lvI, botI, List.mem_map, List.mem_range] at hp
    obtain ⟨i, hi, rfl⟩ := hp
    have : 2 ^ h ≤ 2 ^ 8 := Nat.pow_le_pow_right (by omega) hh
    rw [keyL_full _ _ _ (by omega) (by omega) hs (by omega) (by omega)]; omega
  | l + 1 => by
    intro p hp
    simp only [lvI, upI, List.mem_map] at hp
    obtain ⟨i, _, rfl⟩ := hp
    have a1 := getD_short (lvI_short n seed h l) (2 * i)
    have a2 := getD_short (lvI_short n seed h l) (2 * i + 1)
    unfold upA
    rw [pairT_full _ _ _ _ _ (by omega) (by omega) (by omega) (by omega)]; omega

/-- Keys that no call made. -/
def NoK (w : World) (p : Value) : Prop := p = .pointer none ∨ ∃ g, p = .pointer (some ⟨g, 0, none⟩) ∧ w.cell? ⟨g, 0, none⟩ = some (.int .i64 0)

end Go.Proofs.YtjhannlioddkkaaGreatDoor

namespace Go.Proofs.YtjhannlioddkkaaGreatDoor
open Go.RowKit
set_option linter.unusedVariables false

theorem odd_bit {P : Nat} (h : P % 2 = 1) : ((P : Int) % 2 == 0) = false := by
  rw [beq_eq_false_iff_ne]; omega
theorem even_bit {P : Nat} (h : P % 2 = 0) : ((P : Int) % 2 == 0) = true := by
  rw [beq_iff_eq]; omega
theorem recL_len (size : Int) (l : List (List Int)) (idx : Int) (dg : List Int) : (recL size l idx dg).length ≤ 32 := by
  unfold recL; split
  · exact hashT_len _ _ _
  · simp
theorem climbI_len (size : Int) (idx : Nat) (x : List Int) (path : List (List Int)) (h : x.length ≤ 32) : ∀ k, (climbI size idx x path k).length ≤ 32
  | 0 => h
  | k + 1 => by
    rw [climbI]; split
    · exact pairT_len _ _ _ _ _
    · exact pairT_len _ _ _ _ _

set_option maxRecDepth 100000 in
set_option maxHeartbeats 8000000 in
theorem refVerify_main (size : Int) (vp : Value) (pub : List Int) (vd : Value) (dg : List Int) (sv : Value) (ix H : Nat) (l path : List (List Int)) (w : World) (hz0 : -9223372036854775808 ≤ size) (hz1 : size ≤ 9223372036854775807) (hx0 : -9223372036854775808 ≤ (ix : Int)) (hx1 : (ix : Int) ≤ 9223372036854775807)
    (hBp : IsB pub) (hp : Sl w vp (pub.map (Value.int .u8))) (hBd : IsB dg) (hd : Sl w vd (dg.map (Value.int .u8))) (hBl : ∀ p ∈ l, IsB p) (hBq : ∀ p ∈ path, IsB p) (hg : SigV w sv ix l path) (hc2 : path.length ≤ 8) (hc4 : ix < H) (hH1 : 1 ≤ H ∧ H ≤ 256) (hWH : ((2 : Int) ^ path.length) = (H : Int)) :
    Calls Tryz.prog 35 #[.int .i64 size, vp, .int .i64 path.length, vd, sv] w fun e w' => e = .returned (.bool (verB size pub path.length dg ix l path)) ∧ Below w.heap.size w w' := by
  obtain ⟨pa, pc, qa, qc, rfl⟩ := hg.val
  obtain ⟨g1, g2⟩ := hg.parts
  obtain ⟨pva, pvn, pvc, rfl⟩ := hp.val
  obtain ⟨dva, dvn, dvc, rfl⟩ := hd.val
  have hb2 : Below w.heap.size w (w.alloc (.cells #[.int .i64 ix, .slice pa l.length pc, .slice qa path.length qc] 27)) := (Below.refl _ _).alloc (Nat.le_refl _) _
  have k2 := Blk.new w 27 #[.int .i64 ix, .slice pa l.length pc, .slice qa path.length qc]
  have HP := Lib.hid (hp.below hb2 (Nat.le_refl _))
  have HD := Lib.hid (hd.below hb2 (Nat.le_refl _))
  have HG1 := Lib.hid (g1.below hb2 (Nat.le_refl _))
  have HG2 := Lib.hid (g2.below hb2 (Nat.le_refl _))
  have HV := Lib.hid (show verB size pub path.length dg ix l path = if verOk size path.length ix l path dg.length then decide (climbI size ix (recL size l ix dg) path path.length = pub) else false from rfl)
  generalize verB size pub path.length dg ix l path = V at *
  have HOK : Hid (verOk size path.length ix l path dg.length ↔ (mcanB size path.length = true ∧ 0 ≤ (ix : Int) ∧ (ix : Int) < 2 ^ path.length ∧ (path.length : Int) = path.length ∧ (¬ ∃ p ∈ path, ¬ (p.length : Int) = size) ∧ recE size l ix dg.length = 0)) := ⟨fun h => h, fun h => h⟩
  clear hp hd hg g1 g2
  go_enter Tryz.func35, Tryz.ntmps35
  go_upto_region 1 with (fail)
  generalize (w.alloc (.cells #[.int .i64 ix, .slice pa l.length pc, .slice qa path.length qc] 27)) = w2 at *
  obtain ⟨z0, z1, z2⟩ := rec3 k2
  have hW : wrap64 ((2 : Int) ^ path.length) = (H : Int) := by rw [hWH]; unfold wrap64; omega
  have hW2 : IntKind.i64.wrap ((2 : Int) ^ path.length) = (H : Int) := by rw [hWH, IntKind.wrap_i64]; omega
  have HWH := Lib.hid hWH
  clear hWH
  have hc1 : (0 : Int) ≤ (path.length : Int) := by omega
  have hc2 : (path.length : Int) ≤ 8 := by omega
  have hc3 : (0 : Int) ≤ (ix : Int) := by omega
  have hc3' : ¬ (ix : Int) < 0 := by omega
  have hx4 : ¬ (H : Int) ≤ (ix : Int) := by omega
  have hx5 : ((path.length : Int) != (path.length : Int)) = false := by simp
  have HX4 := Lib.hid (show (ix : Int) < 2 ^ path.length by rw [HWH.out]; omega)
  have HMC := Lib.hid (fun (q : 1 ≤ size ∧ size ≤ 32) => show mcanB size path.length = true from by unfold mcanB; exact decide_eq_true ⟨q.1, q.2, hc1, hc2⟩)
  have hpl8 : path.length ≤ 8 := by omega
  go_wp2
  go_quiet (fail)
  have hbq := below_drewN0 (Below.refl w2.heap.size w2) nq
  have HR := Lib.hid (refRecover_any size (.slice pa l.length pc) l ix (.slice dva dvn dvc) dg (w2.drewN nq) hz0 hz1 hx0 hx1 hBl (HG1.out.below hbq (Nat.le_refl _)) hBd (HD.out.below hbq (Nat.le_refl _)))
  go_wp2_with fail
  refine HR.out.mono ?_
  rintro e w5 ⟨x5, rfl, hx5', hb5⟩
  have hb5 : Below w2.heap.size w2 w5 := ⟨hb5.os, hb5.tape, hb5.output, hb5.size, hb5.block⟩
  have k2 := k2.belowS hb5
  obtain ⟨z0, z1, z2⟩ := rec3 k2
  have hbr := hb2.trans (hb5.mono hb2.size)
  have HP5 := Lib.hid (HP.out.below hb5 (Nat.le_refl _))
  have HG5 := Lib.hid (HG2.out.below hb5 (Nat.le_refl _))
  have HXB := Lib.hid (recL_isB size l ix dg)
  clear HR hbq hc3 hc3' hx4 hx5 hW hW2 hc4 HWH hc1 hc2
  rcases recE_or size l ix dg.length with hc6 | hc6
  rotate_left
  · rw [hc6]
    have HNO := Lib.hid (show ¬ verOk size path.length ix l path dg.length from fun q => by rw [(HOK.out.1 q).2.2.2.2.2] at hc6; cases hc6)
    clear hx5'
    go_wp2
    go_ret
    exact ⟨ret_bool (by rw [HV.out, if_neg HNO.out]), hbr⟩
  · have HSZ := Lib.hid (show 1 ≤ size ∧ size ≤ 32 by
      unfold recE at hc6
      split at hc6
      · rename_i q
        unfold recB at q
        simp only [Bool.and_eq_true] at q
        have := q.1
        unfold canB at this
        have := of_decide_eq_true this
        omega
      · cases hc6)
    have HYES := Lib.hid (fun (q : ¬ ∃ p ∈ path, ¬ (p.length : Int) = size) => show verOk size path.length ix l path dg.length from HOK.out.2 ⟨HMC.out HSZ.out, by omega, HX4.out, by first | rfl | trivial, q, hc6⟩)
    rw [hc6]
    have HCS := Lib.hid (fun k => show climbI size ix (recL size l ix dg) path (k + 1) = (if ix / 2 ^ k % 2 = 1 then pairT size ((k : Int) + 1) ((ix / 2 ^ k / 2 : Nat) : Int) (path.getD k []) (climbI size ix (recL size l ix dg) path k) else pairT size ((k : Int) + 1) ((ix / 2 ^ k / 2 : Nat) : Int) (climbI size ix (recL size l ix dg) path k) (path.getD k [])) from rfl)
    have HC0 := Lib.hid (show climbI size ix (recL size l ix dg) path 0 = recL size l ix dg from rfl)
    have HCB := Lib.hid (climbI_isB size ix (recL size l ix dg) path HXB.out)
    have HCL := Lib.hid (climbI_len size ix (recL size l ix dg) path (recL_len size l ix dg))
    rw [← HC0.out] at hx5'
    generalize climbI size ix (recL size l ix dg) path = CL at *
    clear hc6 HOK HXB HC0 HMC
    go_wp2
    go_loopw [11, 55] (fun x i wr => ∃ (k : Nat) (xv : Value), xv = x ∧ k ≤ path.length ∧ i = .int .i64 k ∧ Hid (∀ j, j < k → ((path.getD j []).length : Int) = size) ∧ Sl wr xv ((CL k).map (Value.int .u8)) ∧ Below w5.heap.size w5 wr) (fun _ i _ => path.length - (intOf i).toNat)
    case atStart => exact ⟨0, _, rfl, by omega, rfl, Lib.hid (fun j hj => absurd hj (by omega)), hx5', Below.refl _ _⟩
    case round =>
      obtain ⟨k, xv, rfl, hk, rfl, HJ, hxv, hbw⟩ := hrel
      obtain ⟨xa, xn, xc, rfl⟩ := hxv.val
      have k2 := k2.belowS hbw
      obtain ⟨z0, z1, z2⟩ := rec3 k2
      by_cases hlt : k < path.length
      · have hkI : (k : Int) < (path.length : Int) := by omega
        obtain ⟨yb, yo, rfl, hyb, yu, hyc, hyu⟩ := (HG5.out.below hbw (Nat.le_refl _)).at hlt
        have HIN := Lib.hid (show IsB (path.getD k []) from hBq _ (getD_mem hlt))
        have HST := Lib.hid (HCS.out k)
        have HMEM := Lib.hid (getD_mem hlt)
        generalize hY : path.getD k [] = Y at *
        have HY := Lib.hid hY
        obtain ⟨ya, yc, rfl, hyc1, hyc2⟩ := hyu.shape
        rw [List.length_map] at *
        clear hY
        by_cases hys : (Y.length : Int) = size
        rotate_left
        · have hne : ((Y.length : Int) != size) = true := by simpa using hys
          have HNO := Lib.hid (show ¬ verOk size path.length ix l path dg.length from fun q => q.2.2.2.2.1 ⟨Y, HMEM.out, hys⟩)
          go_wp2
          go_ret
          exact ⟨ret_bool (by rw [HV.out, if_neg HNO.out]), hbr.trans (hbw.mono hbr.size)⟩
        · have hne : ((Y.length : Int) != size) = false := by simpa using hys
          generalize hP : ix / 2 ^ k = P at *
          have hPb : (P : Int) ≤ ix := by have := Nat.div_le_self ix (2 ^ k); rw [hP] at this; exact Int.ofNat_le.2 this
          have HPB := Lib.hid (show (P : Int) / 2 ≤ 9223372036854775807 by omega)
          have HKL := Lib.hid (show k + 1 ≤ path.length ∧ (k : Int) + 1 ≤ 1000 ∧ (0 : Int) ≤ (k : Int) by omega)
          have HYl := Lib.hid (show Y.length ≤ 140737488351232 by have := HSZ.out; omega)
          have HCl := Lib.hid (show (CL k).length ≤ 140737488351232 by have := HCL.out k; omega)
          have HJ2 := Lib.hid (show ∀ j, j < k + 1 → ((path.getD j []).length : Int) = size from fun j hj => by
            rcases Nat.lt_or_ge j k with h1 | h1
            · exact HJ.out j h1
            · have e : j = k := by omega
              rw [e, HY.out]; exact hys)
          rw [show ((P / 2 : Nat) : Int) = (P : Int) / 2 by omega] at HST
          have hq : (ix : Int) / 2 ^ k = (P : Int) := by rw [← hP]; simp
          have hq2 : (ix : Int) / 2 ^ (k + 1) = (P : Int) / 2 := by rw [← hP, Int.pow_succ, ← Int.ediv_ediv_of_nonneg (Int.pow_nonneg (by decide))]; simp
          clear hP hPb HJ hys
          rcases Nat.mod_two_eq_zero_or_one P with hodd | hodd
          rotate_left
          · have hbit : ((P : Int) % 2 == 0) = false := odd_bit hodd
            rw [if_pos hodd] at HST
            clear hodd
            go_wp2_with fail
            refine (refMpair_any size ((k : Int) + 1) ((P : Int) / 2) (.slice ya Y.length yc) (.slice xa xn xc) Y (CL k) wr (by have := HKL.out; omega) (by have := HKL.out; omega) (by omega) (by have := HPB.out; omega) HIN.out (HCB.out k) HYl.out HCl.out hyu hxv).mono ?_
            rintro e w6 ⟨x6, rfl, hx6, hb6⟩
            go_wp2
            go_roundw
            case rel => exact ⟨k + 1, x6, rfl, HKL.out.1, by go_num, Lib.hid HJ2.out, by rw [HST.out]; exact hx6, hbw.trans (hb6.mono hbw.size)⟩
            case measure => simp [intOf]; have := HKL.out; omega
          · have hbit : ((P : Int) % 2 == 0) = true := even_bit hodd
            rw [if_neg (by omega)] at HST
            clear hodd
            go_wp2_with fail
            refine (refMpair_any size ((k : Int) + 1) ((P : Int) / 2) (.slice xa xn xc) (.slice ya Y.length yc) (CL k) Y wr (by have := HKL.out; omega) (by have := HKL.out; omega) (by omega) (by have := HPB.out; omega) (HCB.out k) HIN.out HCl.out HYl.out hxv hyu).mono ?_
            rintro e w6 ⟨x6, rfl, hx6, hb6⟩
            go_wp2
            go_roundw
            case rel => exact ⟨k + 1, x6, rfl, HKL.out.1, by go_num, Lib.hid HJ2.out, by rw [HST.out]; exact hx6, hbw.trans (hb6.mono hbw.size)⟩
            case measure => simp [intOf]; have := HKL.out; omega
      · obtain rfl : k = path.length := by omega
        have hkI : ¬ (path.length : Int) < (path.length : Int) := by omega
        have HALL := Lib.hid (show ¬ ∃ p ∈ path, ¬ (p.length : Int) = size from by
          rintro ⟨p, hp, hq⟩
          obtain ⟨j, hj, rfl⟩ := List.getElem_of_mem hp
          have := HJ.out j hj
          rw [List.getD_eq_getElem?_getD, List.getElem?_eq_getElem hj] at this
          exact hq this)
        have cv1 := hxv.conv
        have cv2 := (HP5.out.below hbw (Nat.le_refl _)).conv
        have HE : Hid (strOfNums (CL path.length) = strOfNums pub ↔ CL path.length = pub) := ⟨strOfNums_inj (HCB.out _) hBp, fun h => by rw [h]⟩
        by_cases hpe : CL path.length = pub
        · have hst : ((strOfNums (CL path.length)).toList == (strOfNums pub).toList) = true := by rw [hpe]; exact beq_self_eq_true _
          go_wp2
          go_ret
          exact ⟨ret_bool (by rw [HV.out, if_pos (HYES.out HALL.out)]; exact (decide_eq_true hpe).symm), hbr.trans (hbw.mono hbr.size)⟩
        · have hst : ((strOfNums (CL path.length)).toList == (strOfNums pub).toList) = false := by rw [beq_eq_false_iff_ne]; exact fun e => hpe (HE.out.1 (toList_inj e))
          go_wp2
          go_ret
          exact ⟨ret_bool (by rw [HV.out, if_pos (HYES.out HALL.out)]; exact (decide_eq_false hpe).symm), hbr.trans (hbw.mono hbr.size)⟩

theorem refVerify_any (size : Int) (vp : Value) (pub : List Int) (h : Int) (vd : Value) (dg : List Int) (sv : Value) (idx : Int) (l path : List (List Int)) (w : World) (hz0 : -9223372036854775808 ≤ size) (hz1 : size ≤ 9223372036854775807) (hx0 : -9223372036854775808 ≤ idx) (hx1 : idx ≤ 9223372036854775807)
    (hBp : IsB pub) (hp : Sl w vp (pub.map (Value.int .u8))) (hBd : IsB dg) (hd : Sl w vd (dg.map (Value.int .u8))) (hBl : ∀ p ∈ l, IsB p) (hBq : ∀ p ∈ path, IsB p) (hg : SigV w sv idx l path) :
    Calls Tryz.prog 35 #[.int .i64 size, vp, .int .i64 h, vd, sv] w fun e w' => e = .returned (.bool (verB size pub h dg idx l path)) ∧ Below w.heap.size w w' := by
  by_cases hno : 0 ≤ h ∧ h ≤ 8 ∧ 0 ≤ idx ∧ idx < 2 ^ h.toNat ∧ (path.length : Int) = h
  · obtain ⟨h1, h2, h3, h4, rfl⟩ := hno
    obtain ⟨ix, rfl⟩ : ∃ ix : Nat, idx = ix := ⟨idx.toNat, by omega⟩
    rw [Int.toNat_natCast] at h4
    have e : ((2 : Int) ^ path.length) = ((2 ^ path.length : Nat) : Int) := by simp
    rw [e] at h4
    exact refVerify_main size vp pub vd dg sv ix (2 ^ path.length) l path w hz0 hz1 hx0 hx1 hBp hp hBd hd hBl hBq hg (by omega) (by omega) ⟨Nat.one_le_two_pow, Nat.le_trans (Nat.pow_le_pow_right (by omega) (show path.length ≤ 8 by omega)) (by decide)⟩ e
  · exact refVerify_stop size vp pub h vd dg sv idx l path w hz0 hz1 hx0 hx1 hBp hp hBd hd hBl hBq hg hno

end Go.Proofs.YtjhannlioddkkaaGreatDoor

namespace Go.Proofs.YtjhannlioddkkaaGreatDoor
open Go.RowKit
set_option linter.unusedVariables false

def chkB (size height : Int) (pub : List Int) (ep ti : Int) (tr : List Int) (co : Int) (li : List Int) (ln : List (List Int)) (idx : Int) (parts path : List (List Int)) : Bool :=
  if canI size ep ti tr co li ln then (if idx = ep then verB size pub height (hashR size ep ti tr co li ln) idx parts path else false) else false
theorem hashR_len {size ep ti co : Int} {tr li : List Int} {ln : List (List Int)} (h : canI size ep ti tr co li ln) : 0 < (hashR size ep ti tr co li ln).length := by
  unfold hashR
  rw [if_pos h, hashT_full size 5 _ (by have := h.1; omega) (by have := h.1; omega) (by decide) (by decide) (fun p hp => by
    simp only [List.mem_singleton] at hp
    subst hp
    have := enc_short h
    omega)]
  have := h.1
  omega
theorem hashR_isB (size ep ti : Int) (tr : List Int) (co : Int) (li : List Int) (ln : List (List Int)) : IsB (hashR size ep ti tr co li ln) := by
  unfold hashR
  split
  · exact hashT_isB' _ _ _
  · exact fun x hx => by cases hx

set_option maxHeartbeats 1000000 in
theorem rhash_no (size ep ti : Int) (tr : List Int) (co : Int) (li : List Int) (ln : List (List Int)) (v : Value) (w : World) (hz0 : -9223372036854775808 ≤ size) (hz1 : size ≤ 9223372036854775807) (hC : ¬ canI size ep ti tr co li ln) (hr : RecV w v ep ti tr co li ln) (hT : TzTab w) :
    Calls Tryz.prog 32 #[.int .i64 size, v] w fun e w' => e = .returned (.slice none 0 0) ∧ Below w.heap.size w w' := by
  obtain ⟨ta, tn, tc, la, lc, lcc, ka, kc, rfl⟩ := hr.val
  have hb1 : Below w.heap.size w (w.alloc (.cells #[.int .i64 ep, .int .i64 ti, .slice ta tn tc, .int .i64 co, .slice la lc lcc, .slice ka ln.length kc] 25)) := (Below.refl _ _).alloc (Nat.le_refl _) _
  have HE := Lib.hid (enc_any size ep ti tr co li ln _ (w.alloc (.cells #[.int .i64 ep, .int .i64 ti, .slice ta tn tc, .int .i64 co, .slice la lc lcc, .slice ka ln.length kc] 25)) hz0 hz1 (hr.below hb1 (Nat.le_refl _)) (hT.below hb1))
  clear hr hT
  rw [show codeE size ep ti tr co li ln = 1 from by unfold codeE; rw [if_neg hC], show contE size ep ti tr co li ln = [] from by unfold contE; rw [if_neg hC]] at HE
  clear hC
  go_enter Tryz.func32, Tryz.ntmps32
  go_wp2_with fail
  refine HE.out.mono ?_
  rintro e w2 ⟨x, rfl, hx, hb2⟩
  have hbr := below_trans2 hb1 hb2
  go_wp2
  go_ret
  exact ⟨rfl, hbr⟩

set_option maxRecDepth 100000 in
set_option maxHeartbeats 4000000 in
theorem pcheck_any (size height : Int) (vp : Value) (pub : List Int) (ep ti : Int) (tr : List Int) (co : Int) (li : List Int) (ln : List (List Int)) (idx : Int) (parts path : List (List Int)) (v : Value) (w : World) (hz0 : -9223372036854775808 ≤ size) (hz1 : size ≤ 9223372036854775807) (hx0 : -9223372036854775808 ≤ idx) (hx1 : idx ≤ 9223372036854775807)
    (hB : (IsB tr ∧ IsB li ∧ ∀ p ∈ ln, IsB p) ∧ (∀ p ∈ parts, IsB p) ∧ ∀ p ∈ path, IsB p) (hg : SgnV w v ep ti tr co li ln idx parts path) (hBp : IsB pub) (hp : Sl w vp (pub.map (Value.int .u8))) (hT : TzTab w) (ht : Tabs w) :
    Calls Tryz.prog 11 #[.int .i64 size, .int .i64 height, vp, v] w fun e w' => e = .returned (.bool (chkB size height pub ep ti tr co li ln idx parts path)) ∧ Below w.heap.size w w' := by
  obtain ⟨vt, vl, vk, vq1, vq2, rfl, hr, hs⟩ := hg
  obtain ⟨ta, tn, tc, la, lc, lcc, ka, kc, he⟩ := hr.val
  cases he
  obtain ⟨pa, pc, qa, qc, he⟩ := hs.val
  cases he
  obtain ⟨va, vn, vc, rfl⟩ := hp.val
  have hb1 : Below w.heap.size w (w.alloc (.cells #[.int .i64 ep, .int .i64 ti, .slice ta tn tc, .int .i64 co, .slice la lc lcc, .slice ka ln.length kc, .int .i64 idx, .slice pa parts.length pc, .slice qa path.length qc] 29)) := (Below.refl _ _).alloc (Nat.le_refl _) _
  have kR := Blk.new w 29 #[.int .i64 ep, .int .i64 ti, .slice ta tn tc, .int .i64 co, .slice la lc lcc, .slice ka ln.length kc, .int .i64 idx, .slice pa parts.length pc, .slice qa path.length qc]
  have HB1 := Lib.hid hb1
  have HKR := Lib.hid kR
  obtain ⟨⟨c0, c1, c2, c3, c4, c5⟩, c6, c7, c8⟩ := rec9 kR
  by_cases hC : canI size ep ti tr co li ln
  rotate_left
  · have HH := Lib.hid (rhash_no size ep ti tr co li ln _ _ hz0 hz1 hC (hr.below hb1 (Nat.le_refl _)) (hT.below hb1))
    have HC := Lib.hid (show chkB size height pub ep ti tr co li ln idx parts path = false by unfold chkB; rw [if_neg hC])
    have hnq := fun w => run_neq_slice_nil_any (P := Tryz.prog) w 22 5 none 0 0 0 0 Tryz.underlying22
    clear hr hs hB hp hBp hT ht hb1 kR hC
    go_enter Tryz.func11, Tryz.ntmps11
    go_wp2_with fail
    generalize (w.alloc (.cells #[.int .i64 ep, .int .i64 ti, .slice ta tn tc, .int .i64 co, .slice la lc lcc, .slice ka ln.length kc, .int .i64 idx, .slice pa parts.length pc, .slice qa path.length qc] 29)) = w1 at *
    refine HH.out.mono ?_
    rintro e w2 ⟨rfl, hb2⟩
    have hbr := below_trans2 HB1.out hb2
    go_wp2
    go_ret
    exact ⟨ret_bool HC.out.symm, hbr⟩
  have HH := Lib.hid (rhash_any size ep ti tr co li ln _ _ hz0 hz1 hB.1 (hr.below hb1 (Nat.le_refl _)) (hT.below hb1) (ht.below hb1))
  have HV := Lib.hid (fun w' vd (h : Below w.heap.size w w') (hd : Sl w' vd ((hashR size ep ti tr co li ln).map (Value.int .u8))) => verify_any size (.slice va vn vc) pub height vd _ _ idx parts path w' hz0 hz1 hx0 hx1 hBp (hp.below h (Nat.le_refl _)) (hashR_isB _ _ _ _ _ _ _) hd hB.2.1 hB.2.2 (hs.below h (Nat.le_refl _)) (ht.below h))
  have HL := Lib.hid (hashR_len hC)
  have HC := Lib.hid (show chkB size height pub ep ti tr co li ln idx parts path = if idx = ep then verB size pub height (hashR size ep ti tr co li ln) idx parts path else false by unfold chkB; rw [if_pos hC])
  generalize chkB size height pub ep ti tr co li ln idx parts path = CB at *
  generalize hashR size ep ti tr co li ln = HS at *
  clear hr hs hB hp hBp hT ht hb1 kR hC
  go_enter Tryz.func11, Tryz.ntmps11
  go_wp2_with fail
  generalize (w.alloc (.cells #[.int .i64 ep, .int .i64 ti, .slice ta tn tc, .int .i64 co, .slice la lc lcc, .slice ka ln.length kc, .int .i64 idx, .slice pa parts.length pc, .slice qa path.length qc] 29)) = w1 at *
  refine HH.out.mono ?_
  rintro e w2 ⟨x2, rfl, hx2, hb2⟩
  have hbr := below_trans2 HB1.out hb2
  have kR2 := HKR.out.belowS hb2
  obtain ⟨xa, xn, xc, rfl⟩ := hx2.val
  obtain ⟨b0, o0, rfl, -⟩ := hx2.addr (by rw [List.length_map]; exact HL.out)
  have hnq := fun w => run_neq_slice_nil_any (P := Tryz.prog) w 22 5 (some ⟨b0, o0, none⟩) xn xc 0 0 Tryz.underlying22
  have HVV := Lib.hid (HV.out w2 _ hbr hx2)
  clear c0 c1 c2 c3 c4 c5 c6 c7 c8 hx2
  obtain ⟨⟨c0, c1, c2, c3, c4, c5⟩, c6, c7, c8⟩ := rec9 kR2
  clear kR2 hb2 HV HH
  by_cases hI : idx = ep
  · have hI' : (idx == ep) = true := by simpa using hI
    rw [if_pos hI] at HC
    clear hI
    go_wp2_with fail
    refine HVV.out.mono ?_
    rintro e w3 ⟨rfl, hb3⟩
    have hbz := below_trans2 hbr hb3
    go_wp2
    go_ret
    exact ⟨ret_bool HC.out.symm, hbz⟩
  · have hI' : (idx == ep) = false := by simpa using hI
    rw [if_neg hI] at HC
    clear hI
    go_wp2
    go_ret
    exact ⟨ret_bool HC.out.symm, hbr⟩

end Go.Proofs.YtjhannlioddkkaaGreatDoor

namespace Go.Proofs.YtjhannlioddkkaaGreatDoor
open Go.RowKit
set_option linter.unusedVariables false


theorem needs_rc {ops : Array Oper} {i j : Nat} (h : (needs ops i).contains j = true) : j ∈ needs ops i := List.contains_iff_mem.1 h
theorem wanted_rc {o : Oper} {ops : Array Oper} {tmps : Array Value} {k : Nat} {b c : Bool} {s : Tmp} (hg : o.guard = some (k, b)) (hd : (ops[k]?).bind (·.dst) = some s) (hs : tmps[s]? = some (.bool c)) : Region.wanted o (yielded ops tmps) = decide (c = b) := by
  unfold Region.wanted yielded
  rw [hg]
  simp only [hd, Option.bind_some, hs]
  cases b <;> cases c <;> rfl
theorem wpOp_skip {P : Program} {ops : Array Oper} {Q : Exit → Act → World → Prop} {i : Nat} {o : Oper} {K : Act → World → Prop} {a : Act} {w : World} (ho : ops[i]? = some o) (hw : Region.wanted o (yielded ops a.tmps) = false) (h : K (a.put o.dst undef) w) : wpOp P ops Q i K a w := by
  unfold wpOp
  rw [ho]
  show if Region.wanted o (yielded ops a.tmps) = true then _ else _
  rw [if_neg (by simp [hw])]
  exact h
theorem wpOp_want {P : Program} {ops : Array Oper} {Q : Exit → Act → World → Prop} {i : Nat} {o : Oper} {K : Act → World → Prop} {a : Act} {w : World} (ho : ops[i]? = some o) (hw : Region.wanted o (yielded ops a.tmps) = true) (h : Oper.wp P o a w K Q) : wpOp P ops Q i K a w := by
  unfold wpOp
  rw [ho]
  show if Region.wanted o (yielded ops a.tmps) = true then _ else _
  rw [if_pos hw]
  exact Or.inl h


abbrev rc1Act (size height : Int) (v2 v3 v7 : Value) (u : Nat → Value) : Act := { tmps := #[.int .i64 size, .int .i64 height, v2, v3, undef, undef, undef, v7, u 8, u 9, u 10, u 11, u 12, u 13, u 14, u 15, u 16, u 17, u 18, u 19, u 20, u 21, u 22, u 23, u 24, u 25, u 26, u 27, u 28, u 29, u 30, u 31, u 32, u 33], defers := [] }
structure rc1T (w0 : World) (size ep ti : Int) (ta : Option Addr) (tn tc : Nat) (co : Int) (la : Option Addr) (lc lcc : Nat) (ka : Option Addr) (kn kc : Nat) (idx : Int) (D : Nat → Bool) (u : Nat → Value) : Prop where
  s0 : D 0 = true → u 9 = .int .i64 size
  s1 : D 1 = true → u 10 = .pointer (some ⟨w0.heap.size, 0, none⟩)
  s2 : D 2 = true → u 11 = .agg #[.int .i64 ep, .int .i64 ti, .slice ta tn tc, .int .i64 co, .slice la lc lcc, .slice ka kn kc]
  s3 : D 3 = true → u 12 = .bool false
  s4 : D 4 = true → u 13 = .bool false
  s12 : D 12 = true → u 21 = .bool false
  s13 : D 13 = true → u 22 = .bool false
  s24 : D 24 = true → u 33 = .bool false
  s25 : D 25 = true → u 8 = .bool false
def rc1Inv (w0 w1 : World) (size height ep ti : Int) (ta : Option Addr) (tn tc : Nat) (co : Int) (la : Option Addr) (lc lcc : Nat) (ka : Option Addr) (kn kc : Nat) (idx : Int) (v2 v3 v7 : Value) (D : Nat → Bool) (a : Act) (w : World) : Prop :=
  ∃ u, a = rc1Act size height v2 v3 v7 u ∧ rc1T w0 size ep ti ta tn tc co la lc lcc ka kn kc idx D u ∧ Below w1.heap.size w1 w

set_option maxRecDepth 100000 in
set_option maxHeartbeats 4000000 in
theorem rcheck_no1 (size height : Int) (vp : Value) (pub : List Int) (ep ti : Int) (tr : List Int) (co : Int) (li : List Int) (ln : List (List Int)) (idx : Int) (parts path : List (List Int)) (v : Value) (w : World) (hz0 : -9223372036854775808 ≤ size) (hz1 : size ≤ 9223372036854775807) (hx0 : -9223372036854775808 ≤ idx) (hx1 : idx ≤ 9223372036854775807)
    (hB : (IsB tr ∧ IsB li ∧ ∀ p ∈ ln, IsB p) ∧ (∀ p ∈ parts, IsB p) ∧ ∀ p ∈ path, IsB p) (hg : SgnV w v ep ti tr co li ln idx parts path) (hC : ¬ canI size ep ti tr co li ln) (hBp : IsB pub) (hp : Sl w vp (pub.map (Value.int .u8))) :
    Calls Tryz.prog 12 #[.int .i64 size, .int .i64 height, vp, v] w fun e w' => e = .returned (.bool (chkB size height pub ep ti tr co li ln idx parts path)) ∧ Below w.heap.size w w' := by
  obtain ⟨vt, vl, vk, vq1, vq2, rfl, hr, hs⟩ := hg
  obtain ⟨ta, tn, tc, la, lc, lcc, ka, kc, he⟩ := hr.val
  cases he
  obtain ⟨pa, pc, qa, qc, he⟩ := hs.val
  cases he
  obtain ⟨va, vn, vc, rfl⟩ := hp.val
  have hb1 : Below w.heap.size w (w.alloc (.cells #[.int .i64 ep, .int .i64 ti, .slice ta tn tc, .int .i64 co, .slice la lc lcc, .slice ka ln.length kc, .int .i64 idx, .slice pa parts.length pc, .slice qa path.length qc] 29)) := (Below.refl _ _).alloc (Nat.le_refl _) _
  have kR := Blk.new w 29 #[.int .i64 ep, .int .i64 ti, .slice ta tn tc, .int .i64 co, .slice la lc lcc, .slice ka ln.length kc, .int .i64 idx, .slice pa parts.length pc, .slice qa path.length qc]
  have HB1 := Lib.hid hb1
  have HRR := Lib.hid (fun w' (h : Below w.heap.size w w') => hr.below h (Nat.le_refl _))
  have HCN := Lib.hid (fun w' (h : Below w.heap.size w w') => rcan_any size ep ti tr co li ln _ w' hz0 hz1 (hr.below h (Nat.le_refl _)))
  have HHA := Lib.hid (fun w' (h : Below w.heap.size w w') => refrhash_any size ep ti tr co li ln _ w' hz0 hz1 hB.1 (hr.below h (Nat.le_refl _)))
  have HV := Lib.hid (fun w' vd (h : Below w.heap.size w w') (hd : Sl w' vd ((hashR size ep ti tr co li ln).map (Value.int .u8))) => refVerify_any size (.slice va vn vc) pub height vd _ _ idx parts path w' hz0 hz1 hx0 hx1 hBp (hp.below h (Nat.le_refl _)) (hashR_isB _ _ _ _ _ _ _) hd hB.2.1 hB.2.2 (hs.below h (Nat.le_refl _)))
  have HC : Hid (chkB size height pub ep ti tr co li ln idx parts path = if canI size ep ti tr co li ln then (if idx = ep then verB size pub height (hashR size ep ti tr co li ln) idx parts path else false) else false) := rfl
  generalize chkB size height pub ep ti tr co li ln idx parts path = CB at *
  generalize hashR size ep ti tr co li ln = HS at *
  clear hr hs hB hp hBp
  go_enter Tryz.func12, Tryz.ntmps12
  go_upto_region 1 with (fail)
  generalize (w.alloc (.cells #[.int .i64 ep, .int .i64 ti, .slice ta tn tc, .int .i64 co, .slice la lc lcc, .slice ka ln.length kc, .int .i64 idx, .slice pa parts.length pc, .slice qa path.length qc] 29)) = w1 at *
  clear hb1
  obtain ⟨⟨c0, c1, c2, c3, c4, c5⟩, c6, c7, c8⟩ := rec9 kR
  have HK := Lib.hid (fun w' (h : Below w1.heap.size w1 w') => rec9 (kR.belowS h))
  have hG := Lib.hid (HK.out _ (Below.refl _ _))
  clear kR
  rw [decide_eq_false hC] at HCN
  rw [if_neg hC] at HC
  clear hC
  clear c0 c1 c2 c3 c4 c5 c6 c7 c8 hG
  have HB0 := Lib.hid HB1.out
  generalize ln.length = kn at *
  refine wp_region_inv2 (rc1Inv w w1 size height ep ti ta tn tc co la lc lcc ka kn kc idx (.slice va vn vc) (.agg #[.int .i64 ep, .int .i64 ti, .slice ta tn tc, .int .i64 co, .slice la lc lcc, .slice ka kn kc, .int .i64 idx, .slice pa parts.length pc, .slice qa path.length qc]) (.pointer (some ⟨w.heap.size, 0, none⟩))) (by kernel_rfl) (by kernel_rfl) ?start ?step ?fin
  case start =>
    exact ⟨fun k => if k = 8 then .bool false else undef, rfl, ⟨(fun q => by cases q), (fun q => by cases q), (fun q => by cases q), (fun q => by cases q), (fun q => by cases q), (fun q => by cases q), (fun q => by cases q), (fun q => by cases q), (fun q => by cases q)⟩, (Below.refl _ _).drew⟩
  case step =>
    intro D a w' i hi hI hD hcl hn
    obtain ⟨u, rfl, hT, hW⟩ := hI
    have hi' : i < 26 := hi
    clear hi
    rcases (show i = 0 ∨ i = 1 ∨ i = 2 ∨ i = 3 ∨ i = 4 ∨ i = 5 ∨ i = 6 ∨ i = 7 ∨ i = 8 ∨ i = 9 ∨ i = 10 ∨ i = 11 ∨ i = 12 ∨ i = 13 ∨ i = 14 ∨ i = 15 ∨ i = 16 ∨ i = 17 ∨ i = 18 ∨ i = 19 ∨ i = 20 ∨ i = 21 ∨ i = 22 ∨ i = 23 ∨ i = 24 ∨ i = 25 from by omega) with rfl | rfl | rfl | rfl | rfl | rfl | rfl | rfl | rfl | rfl | rfl | rfl | rfl | rfl | rfl | rfl | rfl | rfl | rfl | rfl | rfl | rfl | rfl | rfl | rfl | rfl
    · refine wpOp_plain rfl rfl ?_
      go_simp
      exact ⟨upd u 9 (.int .i64 size), rfl, ⟨fun _ => rfl, fun h => hT.s1 h, fun h => hT.s2 h, fun h => hT.s3 h, fun h => hT.s4 h, fun h => hT.s12 h, fun h => hT.s13 h, fun h => hT.s24 h, fun h => hT.s25 h⟩, hW⟩
    · refine wpOp_plain rfl rfl ?_
      go_simp
      exact ⟨upd u 10 (.pointer (some ⟨w.heap.size, 0, none⟩)), rfl, ⟨fun h => hT.s0 h, fun _ => rfl, fun h => hT.s2 h, fun h => hT.s3 h, fun h => hT.s4 h, fun h => hT.s12 h, fun h => hT.s13 h, fun h => hT.s24 h, fun h => hT.s25 h⟩, hW⟩
    · obtain ⟨⟨m0, m1, m2, m3, m4, m5⟩, m6, m7, m8⟩ := HK.out w' hW
      have d1 : D 1 = true := hn 1 (needs_rc (by kernel_rfl))
      have e10 := hT.s1 d1
      refine wpOp_plain rfl rfl ?_
      go_simp
      exact ⟨upd u 11 (.agg #[.int .i64 ep, .int .i64 ti, .slice ta tn tc, .int .i64 co, .slice la lc lcc, .slice ka kn kc]), by first | rfl | simp [upd, e10], ⟨fun h => hT.s0 h, fun h => hT.s1 h, fun _ => rfl, fun h => hT.s3 h, fun h => hT.s4 h, fun h => hT.s12 h, fun h => hT.s13 h, fun h => hT.s24 h, fun h => hT.s25 h⟩, hW⟩
    · have d0 : D 0 = true := hn 0 (needs_rc (by kernel_rfl))
      have e9 := hT.s0 d0
      have d2 : D 2 = true := hn 2 (needs_rc (by kernel_rfl))
      have e11 := hT.s2 d2
      refine wpOp_plain rfl rfl ?_
      go_simp
      go_at_call 34
      refine (HCN.out w' (below_trans2 HB0.out hW)).mono ?_
      rintro e w3 ⟨rfl, hb3⟩
      exact ⟨upd u 12 (.bool false), by first | rfl | simp [upd, e9, e11], ⟨fun h => hT.s0 h, fun h => hT.s1 h, fun h => hT.s2 h, fun _ => rfl, fun h => hT.s4 h, fun h => hT.s12 h, fun h => hT.s13 h, fun h => hT.s24 h, fun h => hT.s25 h⟩, below_trans2 hW hb3⟩
    · have d3 : D 3 = true := hn 3 (needs_rc (by kernel_rfl))
      have e12 := hT.s3 d3
      refine wpOp_plain rfl rfl ?_
      go_simp
      exact ⟨upd u 13 (.bool false), by first | rfl | simp [upd, e12], ⟨fun h => hT.s0 h, fun h => hT.s1 h, fun h => hT.s2 h, fun h => hT.s3 h, fun _ => rfl, fun h => hT.s12 h, fun h => hT.s13 h, fun h => hT.s24 h, fun h => hT.s25 h⟩, hW⟩
    · have d4 : D 4 = true := hn 4 (needs_rc (by kernel_rfl))
      have e13 := hT.s4 d4
      refine wpOp_skip rfl ((wanted_rc (k := 4) (b := true) (c := false) (s := 13) rfl rfl (by first | exact congrArg some e13 | simp [e13])).trans rfl) ?_
      exact ⟨upd u 14 undef, rfl, ⟨fun h => hT.s0 h, fun h => hT.s1 h, fun h => hT.s2 h, fun h => hT.s3 h, fun h => hT.s4 h, fun h => hT.s12 h, fun h => hT.s13 h, fun h => hT.s24 h, fun h => hT.s25 h⟩, hW⟩
    · have d4 : D 4 = true := hn 4 (needs_rc (by kernel_rfl))
      have e13 := hT.s4 d4
      refine wpOp_skip rfl ((wanted_rc (k := 4) (b := true) (c := false) (s := 13) rfl rfl (by first | exact congrArg some e13 | simp [e13])).trans rfl) ?_
      exact ⟨upd u 15 undef, rfl, ⟨fun h => hT.s0 h, fun h => hT.s1 h, fun h => hT.s2 h, fun h => hT.s3 h, fun h => hT.s4 h, fun h => hT.s12 h, fun h => hT.s13 h, fun h => hT.s24 h, fun h => hT.s25 h⟩, hW⟩
    · have d4 : D 4 = true := hn 4 (needs_rc (by kernel_rfl))
      have e13 := hT.s4 d4
      refine wpOp_skip rfl ((wanted_rc (k := 4) (b := true) (c := false) (s := 13) rfl rfl (by first | exact congrArg some e13 | simp [e13])).trans rfl) ?_
      exact ⟨upd u 16 undef, rfl, ⟨fun h => hT.s0 h, fun h => hT.s1 h, fun h => hT.s2 h, fun h => hT.s3 h, fun h => hT.s4 h, fun h => hT.s12 h, fun h => hT.s13 h, fun h => hT.s24 h, fun h => hT.s25 h⟩, hW⟩
    · have d4 : D 4 = true := hn 4 (needs_rc (by kernel_rfl))
      have e13 := hT.s4 d4
      refine wpOp_skip rfl ((wanted_rc (k := 4) (b := true) (c := false) (s := 13) rfl rfl (by first | exact congrArg some e13 | simp [e13])).trans rfl) ?_
      exact ⟨upd u 17 undef, rfl, ⟨fun h => hT.s0 h, fun h => hT.s1 h, fun h => hT.s2 h, fun h => hT.s3 h, fun h => hT.s4 h, fun h => hT.s12 h, fun h => hT.s13 h, fun h => hT.s24 h, fun h => hT.s25 h⟩, hW⟩
    · have d4 : D 4 = true := hn 4 (needs_rc (by kernel_rfl))
      have e13 := hT.s4 d4
      refine wpOp_skip rfl ((wanted_rc (k := 4) (b := true) (c := false) (s := 13) rfl rfl (by first | exact congrArg some e13 | simp [e13])).trans rfl) ?_
      exact ⟨upd u 18 undef, rfl, ⟨fun h => hT.s0 h, fun h => hT.s1 h, fun h => hT.s2 h, fun h => hT.s3 h, fun h => hT.s4 h, fun h => hT.s12 h, fun h => hT.s13 h, fun h => hT.s24 h, fun h => hT.s25 h⟩, hW⟩
    · have d4 : D 4 = true := hn 4 (needs_rc (by kernel_rfl))
      have e13 := hT.s4 d4
      refine wpOp_skip rfl ((wanted_rc (k := 4) (b := true) (c := false) (s := 13) rfl rfl (by first | exact congrArg some e13 | simp [e13])).trans rfl) ?_
      exact ⟨upd u 19 undef, rfl, ⟨fun h => hT.s0 h, fun h => hT.s1 h, fun h => hT.s2 h, fun h => hT.s3 h, fun h => hT.s4 h, fun h => hT.s12 h, fun h => hT.s13 h, fun h => hT.s24 h, fun h => hT.s25 h⟩, hW⟩
    · have d4 : D 4 = true := hn 4 (needs_rc (by kernel_rfl))
      have e13 := hT.s4 d4
      refine wpOp_skip rfl ((wanted_rc (k := 4) (b := true) (c := false) (s := 13) rfl rfl (by first | exact congrArg some e13 | simp [e13])).trans rfl) ?_
      exact ⟨upd u 20 undef, rfl, ⟨fun h => hT.s0 h, fun h => hT.s1 h, fun h => hT.s2 h, fun h => hT.s3 h, fun h => hT.s4 h, fun h => hT.s12 h, fun h => hT.s13 h, fun h => hT.s24 h, fun h => hT.s25 h⟩, hW⟩
    · have d4 : D 4 = true := hn 4 (needs_rc (by kernel_rfl))
      have e13 := hT.s4 d4
      refine wpOp_plain rfl rfl ?_
      go_simp
      exact ⟨upd u 21 (.bool false), by first | rfl | simp [upd, e13], ⟨fun h => hT.s0 h, fun h => hT.s1 h, fun h => hT.s2 h, fun h => hT.s3 h, fun h => hT.s4 h, fun _ => rfl, fun h => hT.s13 h, fun h => hT.s24 h, fun h => hT.s25 h⟩, hW⟩
    · have d12 : D 12 = true := hn 12 (needs_rc (by kernel_rfl))
      have e21 := hT.s12 d12
      refine wpOp_plain rfl rfl ?_
      go_simp
      exact ⟨upd u 22 (.bool false), by first | rfl | simp [upd, e21], ⟨fun h => hT.s0 h, fun h => hT.s1 h, fun h => hT.s2 h, fun h => hT.s3 h, fun h => hT.s4 h, fun h => hT.s12 h, fun _ => rfl, fun h => hT.s24 h, fun h => hT.s25 h⟩, hW⟩
    · have d13 : D 13 = true := hn 13 (needs_rc (by kernel_rfl))
      have e22 := hT.s13 d13
      refine wpOp_skip rfl ((wanted_rc (k := 13) (b := true) (c := false) (s := 22) rfl rfl (by first | exact congrArg some e22 | simp [e22])).trans rfl) ?_
      exact ⟨upd u 23 undef, rfl, ⟨fun h => hT.s0 h, fun h => hT.s1 h, fun h => hT.s2 h, fun h => hT.s3 h, fun h => hT.s4 h, fun h => hT.s12 h, fun h => hT.s13 h, fun h => hT.s24 h, fun h => hT.s25 h⟩, hW⟩
    · have d13 : D 13 = true := hn 13 (needs_rc (by kernel_rfl))
      have e22 := hT.s13 d13
      refine wpOp_skip rfl ((wanted_rc (k := 13) (b := true) (c := false) (s := 22) rfl rfl (by first | exact congrArg some e22 | simp [e22])).trans rfl) ?_
      exact ⟨upd u 24 undef, rfl, ⟨fun h => hT.s0 h, fun h => hT.s1 h, fun h => hT.s2 h, fun h => hT.s3 h, fun h => hT.s4 h, fun h => hT.s12 h, fun h => hT.s13 h, fun h => hT.s24 h, fun h => hT.s25 h⟩, hW⟩
    · have d13 : D 13 = true := hn 13 (needs_rc (by kernel_rfl))
      have e22 := hT.s13 d13
      refine wpOp_skip rfl ((wanted_rc (k := 13) (b := true) (c := false) (s := 22) rfl rfl (by first | exact congrArg some e22 | simp [e22])).trans rfl) ?_
      exact ⟨upd u 25 undef, rfl, ⟨fun h => hT.s0 h, fun h => hT.s1 h, fun h => hT.s2 h, fun h => hT.s3 h, fun h => hT.s4 h, fun h => hT.s12 h, fun h => hT.s13 h, fun h => hT.s24 h, fun h => hT.s25 h⟩, hW⟩
    · have d13 : D 13 = true := hn 13 (needs_rc (by kernel_rfl))
      have e22 := hT.s13 d13
      refine wpOp_skip rfl ((wanted_rc (k := 13) (b := true) (c := false) (s := 22) rfl rfl (by first | exact congrArg some e22 | simp [e22])).trans rfl) ?_
      exact ⟨upd u 26 undef, rfl, ⟨fun h => hT.s0 h, fun h => hT.s1 h, fun h => hT.s2 h, fun h => hT.s3 h, fun h => hT.s4 h, fun h => hT.s12 h, fun h => hT.s13 h, fun h => hT.s24 h, fun h => hT.s25 h⟩, hW⟩
    · have d13 : D 13 = true := hn 13 (needs_rc (by kernel_rfl))
      have e22 := hT.s13 d13
      refine wpOp_skip rfl ((wanted_rc (k := 13) (b := true) (c := false) (s := 22) rfl rfl (by first | exact congrArg some e22 | simp [e22])).trans rfl) ?_
      exact ⟨upd u 27 undef, rfl, ⟨fun h => hT.s0 h, fun h => hT.s1 h, fun h => hT.s2 h, fun h => hT.s3 h, fun h => hT.s4 h, fun h => hT.s12 h, fun h => hT.s13 h, fun h => hT.s24 h, fun h => hT.s25 h⟩, hW⟩
    · have d13 : D 13 = true := hn 13 (needs_rc (by kernel_rfl))
      have e22 := hT.s13 d13
      refine wpOp_skip rfl ((wanted_rc (k := 13) (b := true) (c := false) (s := 22) rfl rfl (by first | exact congrArg some e22 | simp [e22])).trans rfl) ?_
      exact ⟨upd u 28 undef, rfl, ⟨fun h => hT.s0 h, fun h => hT.s1 h, fun h => hT.s2 h, fun h => hT.s3 h, fun h => hT.s4 h, fun h => hT.s12 h, fun h => hT.s13 h, fun h => hT.s24 h, fun h => hT.s25 h⟩, hW⟩
    · have d13 : D 13 = true := hn 13 (needs_rc (by kernel_rfl))
      have e22 := hT.s13 d13
      refine wpOp_skip rfl ((wanted_rc (k := 13) (b := true) (c := false) (s := 22) rfl rfl (by first | exact congrArg some e22 | simp [e22])).trans rfl) ?_
      exact ⟨upd u 29 undef, rfl, ⟨fun h => hT.s0 h, fun h => hT.s1 h, fun h => hT.s2 h, fun h => hT.s3 h, fun h => hT.s4 h, fun h => hT.s12 h, fun h => hT.s13 h, fun h => hT.s24 h, fun h => hT.s25 h⟩, hW⟩
    · have d13 : D 13 = true := hn 13 (needs_rc (by kernel_rfl))
      have e22 := hT.s13 d13
      refine wpOp_skip rfl ((wanted_rc (k := 13) (b := true) (c := false) (s := 22) rfl rfl (by first | exact congrArg some e22 | simp [e22])).trans rfl) ?_
      exact ⟨upd u 30 undef, rfl, ⟨fun h => hT.s0 h, fun h => hT.s1 h, fun h => hT.s2 h, fun h => hT.s3 h, fun h => hT.s4 h, fun h => hT.s12 h, fun h => hT.s13 h, fun h => hT.s24 h, fun h => hT.s25 h⟩, hW⟩
    · have d13 : D 13 = true := hn 13 (needs_rc (by kernel_rfl))
      have e22 := hT.s13 d13
      refine wpOp_skip rfl ((wanted_rc (k := 13) (b := true) (c := false) (s := 22) rfl rfl (by first | exact congrArg some e22 | simp [e22])).trans rfl) ?_
      exact ⟨upd u 31 undef, rfl, ⟨fun h => hT.s0 h, fun h => hT.s1 h, fun h => hT.s2 h, fun h => hT.s3 h, fun h => hT.s4 h, fun h => hT.s12 h, fun h => hT.s13 h, fun h => hT.s24 h, fun h => hT.s25 h⟩, hW⟩
    · have d13 : D 13 = true := hn 13 (needs_rc (by kernel_rfl))
      have e22 := hT.s13 d13
      refine wpOp_skip rfl ((wanted_rc (k := 13) (b := true) (c := false) (s := 22) rfl rfl (by first | exact congrArg some e22 | simp [e22])).trans rfl) ?_
      exact ⟨upd u 32 undef, rfl, ⟨fun h => hT.s0 h, fun h => hT.s1 h, fun h => hT.s2 h, fun h => hT.s3 h, fun h => hT.s4 h, fun h => hT.s12 h, fun h => hT.s13 h, fun h => hT.s24 h, fun h => hT.s25 h⟩, hW⟩
    · have d13 : D 13 = true := hn 13 (needs_rc (by kernel_rfl))
      have e22 := hT.s13 d13
      refine wpOp_plain rfl rfl ?_
      go_simp
      exact ⟨upd u 33 (.bool false), by first | rfl | simp [upd, e22], ⟨fun h => hT.s0 h, fun h => hT.s1 h, fun h => hT.s2 h, fun h => hT.s3 h, fun h => hT.s4 h, fun h => hT.s12 h, fun h => hT.s13 h, fun _ => rfl, fun h => hT.s25 h⟩, hW⟩
    · have d24 : D 24 = true := hn 24 (needs_rc (by kernel_rfl))
      have e33 := hT.s24 d24
      refine wpOp_plain rfl rfl ?_
      go_simp
      exact ⟨upd u 8 (.bool false), by first | rfl | simp [upd, e33], ⟨fun h => hT.s0 h, fun h => hT.s1 h, fun h => hT.s2 h, fun h => hT.s3 h, fun h => hT.s4 h, fun h => hT.s12 h, fun h => hT.s13 h, fun h => hT.s24 h, fun _ => rfl⟩, hW⟩
  case fin =>
    intro D a w' hI hall
    obtain ⟨u, rfl, hT, hW⟩ := hI
    have e8 := hT.s25 (hall 25 (by decide))
    have hbz := below_trans2 HB1.out hW
    clear hT hall hW
    go_wp2
    go_ret
    exact ⟨by first | exact (congrArg Ending.returned e8).trans (ret_bool HC.out.symm) | (rw [e8]; exact ret_bool HC.out.symm) | exact ret_bool HC.out.symm, hbz⟩

end Go.Proofs.YtjhannlioddkkaaGreatDoor

namespace Go.Proofs.YtjhannlioddkkaaGreatDoor
open Go.RowKit
set_option linter.unusedVariables false


abbrev rc2Act (size height : Int) (v2 v3 v7 : Value) (u : Nat → Value) : Act := { tmps := #[.int .i64 size, .int .i64 height, v2, v3, undef, undef, undef, v7, u 8, u 9, u 10, u 11, u 12, u 13, u 14, u 15, u 16, u 17, u 18, u 19, u 20, u 21, u 22, u 23, u 24, u 25, u 26, u 27, u 28, u 29, u 30, u 31, u 32, u 33], defers := [] }
structure rc2T (w0 : World) (size ep ti : Int) (ta : Option Addr) (tn tc : Nat) (co : Int) (la : Option Addr) (lc lcc : Nat) (ka : Option Addr) (kn kc : Nat) (idx : Int) (D : Nat → Bool) (u : Nat → Value) : Prop where
  s0 : D 0 = true → u 9 = .int .i64 size
  s1 : D 1 = true → u 10 = .pointer (some ⟨w0.heap.size, 0, none⟩)
  s2 : D 2 = true → u 11 = .agg #[.int .i64 ep, .int .i64 ti, .slice ta tn tc, .int .i64 co, .slice la lc lcc, .slice ka kn kc]
  s3 : D 3 = true → u 12 = .bool true
  s4 : D 4 = true → u 13 = .bool true
  s5 : D 5 = true → u 14 = .pointer (some ⟨w0.heap.size, 6, none⟩)
  s6 : D 6 = true → u 15 = .pointer (some ⟨w0.heap.size, 6, none⟩)
  s7 : D 7 = true → u 16 = .int .i64 idx
  s8 : D 8 = true → u 17 = .pointer (some ⟨w0.heap.size, 0, none⟩)
  s9 : D 9 = true → u 18 = .pointer (some ⟨w0.heap.size, 0, none⟩)
  s10 : D 10 = true → u 19 = .int .i64 ep
  s11 : D 11 = true → u 20 = .bool false
  s12 : D 12 = true → u 21 = .bool false
  s13 : D 13 = true → u 22 = .bool false
  s24 : D 24 = true → u 33 = .bool false
  s25 : D 25 = true → u 8 = .bool false
def rc2Inv (w0 w1 : World) (size height ep ti : Int) (ta : Option Addr) (tn tc : Nat) (co : Int) (la : Option Addr) (lc lcc : Nat) (ka : Option Addr) (kn kc : Nat) (idx : Int) (v2 v3 v7 : Value) (D : Nat → Bool) (a : Act) (w : World) : Prop :=
  ∃ u, a = rc2Act size height v2 v3 v7 u ∧ rc2T w0 size ep ti ta tn tc co la lc lcc ka kn kc idx D u ∧ Below w1.heap.size w1 w

set_option maxRecDepth 100000 in
set_option maxHeartbeats 4000000 in
theorem rcheck_no2 (size height : Int) (vp : Value) (pub : List Int) (ep ti : Int) (tr : List Int) (co : Int) (li : List Int) (ln : List (List Int)) (idx : Int) (parts path : List (List Int)) (v : Value) (w : World) (hz0 : -9223372036854775808 ≤ size) (hz1 : size ≤ 9223372036854775807) (hx0 : -9223372036854775808 ≤ idx) (hx1 : idx ≤ 9223372036854775807)
    (hB : (IsB tr ∧ IsB li ∧ ∀ p ∈ ln, IsB p) ∧ (∀ p ∈ parts, IsB p) ∧ ∀ p ∈ path, IsB p) (hg : SgnV w v ep ti tr co li ln idx parts path) (hC : canI size ep ti tr co li ln) (hI : ¬ idx = ep) (hBp : IsB pub) (hp : Sl w vp (pub.map (Value.int .u8))) :
    Calls Tryz.prog 12 #[.int .i64 size, .int .i64 height, vp, v] w fun e w' => e = .returned (.bool (chkB size height pub ep ti tr co li ln idx parts path)) ∧ Below w.heap.size w w' := by
  obtain ⟨vt, vl, vk, vq1, vq2, rfl, hr, hs⟩ := hg
  obtain ⟨ta, tn, tc, la, lc, lcc, ka, kc, he⟩ := hr.val
  cases he
  obtain ⟨pa, pc, qa, qc, he⟩ := hs.val
  cases he
  obtain ⟨va, vn, vc, rfl⟩ := hp.val
  have hb1 : Below w.heap.size w (w.alloc (.cells #[.int .i64 ep, .int .i64 ti, .slice ta tn tc, .int .i64 co, .slice la lc lcc, .slice ka ln.length kc, .int .i64 idx, .slice pa parts.length pc, .slice qa path.length qc] 29)) := (Below.refl _ _).alloc (Nat.le_refl _) _
  have kR := Blk.new w 29 #[.int .i64 ep, .int .i64 ti, .slice ta tn tc, .int .i64 co, .slice la lc lcc, .slice ka ln.length kc, .int .i64 idx, .slice pa parts.length pc, .slice qa path.length qc]
  have HB1 := Lib.hid hb1
  have HRR := Lib.hid (fun w' (h : Below w.heap.size w w') => hr.below h (Nat.le_refl _))
  have HCN := Lib.hid (fun w' (h : Below w.heap.size w w') => rcan_any size ep ti tr co li ln _ w' hz0 hz1 (hr.below h (Nat.le_refl _)))
  have HHA := Lib.hid (fun w' (h : Below w.heap.size w w') => refrhash_any size ep ti tr co li ln _ w' hz0 hz1 hB.1 (hr.below h (Nat.le_refl _)))
  have HV := Lib.hid (fun w' vd (h : Below w.heap.size w w') (hd : Sl w' vd ((hashR size ep ti tr co li ln).map (Value.int .u8))) => refVerify_any size (.slice va vn vc) pub height vd _ _ idx parts path w' hz0 hz1 hx0 hx1 hBp (hp.below h (Nat.le_refl _)) (hashR_isB _ _ _ _ _ _ _) hd hB.2.1 hB.2.2 (hs.below h (Nat.le_refl _)))
  have HC : Hid (chkB size height pub ep ti tr co li ln idx parts path = if canI size ep ti tr co li ln then (if idx = ep then verB size pub height (hashR size ep ti tr co li ln) idx parts path else false) else false) := rfl
  generalize chkB size height pub ep ti tr co li ln idx parts path = CB at *
  generalize hashR size ep ti tr co li ln = HS at *
  clear hr hs hB hp hBp
  go_enter Tryz.func12, Tryz.ntmps12
  go_upto_region 1 with (fail)
  generalize (w.alloc (.cells #[.int .i64 ep, .int .i64 ti, .slice ta tn tc, .int .i64 co, .slice la lc lcc, .slice ka ln.length kc, .int .i64 idx, .slice pa parts.length pc, .slice qa path.length qc] 29)) = w1 at *
  clear hb1
  obtain ⟨⟨c0, c1, c2, c3, c4, c5⟩, c6, c7, c8⟩ := rec9 kR
  have HK := Lib.hid (fun w' (h : Below w1.heap.size w1 w') => rec9 (kR.belowS h))
  have hG := Lib.hid (HK.out _ (Below.refl _ _))
  clear kR
  rw [decide_eq_true hC] at HCN
  rw [if_pos hC, if_neg hI] at HC
  have hI' : (idx == ep) = false := by simpa using hI
  clear hC hI
  clear c0 c1 c2 c3 c4 c5 c6 c7 c8 hG
  have HB0 := Lib.hid HB1.out
  generalize ln.length = kn at *
  refine wp_region_inv2 (rc2Inv w w1 size height ep ti ta tn tc co la lc lcc ka kn kc idx (.slice va vn vc) (.agg #[.int .i64 ep, .int .i64 ti, .slice ta tn tc, .int .i64 co, .slice la lc lcc, .slice ka kn kc, .int .i64 idx, .slice pa parts.length pc, .slice qa path.length qc]) (.pointer (some ⟨w.heap.size, 0, none⟩))) (by kernel_rfl) (by kernel_rfl) ?start ?step ?fin
  case start =>
    exact ⟨fun k => if k = 8 then .bool false else undef, rfl, ⟨(fun q => by cases q), (fun q => by cases q), (fun q => by cases q), (fun q => by cases q), (fun q => by cases q), (fun q => by cases q), (fun q => by cases q), (fun q => by cases q), (fun q => by cases q), (fun q => by cases q), (fun q => by cases q), (fun q => by cases q), (fun q => by cases q), (fun q => by cases q), (fun q => by cases q), (fun q => by cases q)⟩, (Below.refl _ _).drew⟩
  case step =>
    intro D a w' i hi hI hD hcl hn
    obtain ⟨u, rfl, hT, hW⟩ := hI
    have hi' : i < 26 := hi
    clear hi
    rcases (show i = 0 ∨ i = 1 ∨ i = 2 ∨ i = 3 ∨ i = 4 ∨ i = 5 ∨ i = 6 ∨ i = 7 ∨ i = 8 ∨ i = 9 ∨ i = 10 ∨ i = 11 ∨ i = 12 ∨ i = 13 ∨ i = 14 ∨ i = 15 ∨ i = 16 ∨ i = 17 ∨ i = 18 ∨ i = 19 ∨ i = 20 ∨ i = 21 ∨ i = 22 ∨ i = 23 ∨ i = 24 ∨ i = 25 from by omega) with rfl | rfl | rfl | rfl | rfl | rfl | rfl | rfl | rfl | rfl | rfl | rfl | rfl | rfl | rfl | rfl | rfl | rfl | rfl | rfl | rfl | rfl | rfl | rfl | rfl | rfl
    · refine wpOp_plain rfl rfl ?_
      go_simp
      exact ⟨upd u 9 (.int .i64 size), rfl, ⟨fun _ => rfl, fun h => hT.s1 h, fun h => hT.s2 h, fun h => hT.s3 h, fun h => hT.s4 h, fun h => hT.s5 h, fun h => hT.s6 h, fun h => hT.s7 h, fun h => hT.s8 h, fun h => hT.s9 h, fun h => hT.s10 h, fun h => hT.s11 h, fun h => hT.s12 h, fun h => hT.s13 h, fun h => hT.s24 h, fun h => hT.s25 h⟩, hW⟩
    · refine wpOp_plain rfl rfl ?_
      go_simp
      exact ⟨upd u 10 (.pointer (some ⟨w.heap.size, 0, none⟩)), rfl, ⟨fun h => hT.s0 h, fun _ => rfl, fun h => hT.s2 h, fun h => hT.s3 h, fun h => hT.s4 h, fun h => hT.s5 h, fun h => hT.s6 h, fun h => hT.s7 h, fun h => hT.s8 h, fun h => hT.s9 h, fun h => hT.s10 h, fun h => hT.s11 h, fun h => hT.s12 h, fun h => hT.s13 h, fun h => hT.s24 h, fun h => hT.s25 h⟩, hW⟩
    · obtain ⟨⟨m0, m1, m2, m3, m4, m5⟩, m6, m7, m8⟩ := HK.out w' hW
      have d1 : D 1 = true := hn 1 (needs_rc (by kernel_rfl))
      have e10 := hT.s1 d1
      refine wpOp_plain rfl rfl ?_
      go_simp
      exact ⟨upd u 11 (.agg #[.int .i64 ep, .int .i64 ti, .slice ta tn tc, .int .i64 co, .slice la lc lcc, .slice ka kn kc]), by first | rfl | simp [upd, e10], ⟨fun h => hT.s0 h, fun h => hT.s1 h, fun _ => rfl, fun h => hT.s3 h, fun h => hT.s4 h, fun h => hT.s5 h, fun h => hT.s6 h, fun h => hT.s7 h, fun h => hT.s8 h, fun h => hT.s9 h, fun h => hT.s10 h, fun h => hT.s11 h, fun h => hT.s12 h, fun h => hT.s13 h, fun h => hT.s24 h, fun h => hT.s25 h⟩, hW⟩
    · have d0 : D 0 = true := hn 0 (needs_rc (by kernel_rfl))
      have e9 := hT.s0 d0
      have d2 : D 2 = true := hn 2 (needs_rc (by kernel_rfl))
      have e11 := hT.s2 d2
      refine wpOp_plain rfl rfl ?_
      go_simp
      go_at_call 34
      refine (HCN.out w' (below_trans2 HB0.out hW)).mono ?_
      rintro e w3 ⟨rfl, hb3⟩
      exact ⟨upd u 12 (.bool true), by first | rfl | simp [upd, e9, e11], ⟨fun h => hT.s0 h, fun h => hT.s1 h, fun h => hT.s2 h, fun _ => rfl, fun h => hT.s4 h, fun h => hT.s5 h, fun h => hT.s6 h, fun h => hT.s7 h, fun h => hT.s8 h, fun h => hT.s9 h, fun h => hT.s10 h, fun h => hT.s11 h, fun h => hT.s12 h, fun h => hT.s13 h, fun h => hT.s24 h, fun h => hT.s25 h⟩, below_trans2 hW hb3⟩
    · have d3 : D 3 = true := hn 3 (needs_rc (by kernel_rfl))
      have e12 := hT.s3 d3
      refine wpOp_plain rfl rfl ?_
      go_simp
      exact ⟨upd u 13 (.bool true), by first | rfl | simp [upd, e12], ⟨fun h => hT.s0 h, fun h => hT.s1 h, fun h => hT.s2 h, fun h => hT.s3 h, fun _ => rfl, fun h => hT.s5 h, fun h => hT.s6 h, fun h => hT.s7 h, fun h => hT.s8 h, fun h => hT.s9 h, fun h => hT.s10 h, fun h => hT.s11 h, fun h => hT.s12 h, fun h => hT.s13 h, fun h => hT.s24 h, fun h => hT.s25 h⟩, hW⟩
    · have d4 : D 4 = true := hn 4 (needs_rc (by kernel_rfl))
      have e13 := hT.s4 d4
      refine wpOp_want rfl ((wanted_rc (k := 4) (b := true) (c := true) (s := 13) rfl rfl (by first | exact congrArg some e13 | simp [e13])).trans rfl) ?_
      go_simp
      exact ⟨upd u 14 (.pointer (some ⟨w.heap.size, 6, none⟩)), by first | rfl | simp [upd, e13], ⟨fun h => hT.s0 h, fun h => hT.s1 h, fun h => hT.s2 h, fun h => hT.s3 h, fun h => hT.s4 h, fun _ => rfl, fun h => hT.s6 h, fun h => hT.s7 h, fun h => hT.s8 h, fun h => hT.s9 h, fun h => hT.s10 h, fun h => hT.s11 h, fun h => hT.s12 h, fun h => hT.s13 h, fun h => hT.s24 h, fun h => hT.s25 h⟩, hW⟩
    · have d5 : D 5 = true := hn 5 (needs_rc (by kernel_rfl))
      have e14 := hT.s5 d5
      have d4 : D 4 = true := hn 4 (needs_rc (by kernel_rfl))
      have e13 := hT.s4 d4
      refine wpOp_want rfl ((wanted_rc (k := 4) (b := true) (c := true) (s := 13) rfl rfl (by first | exact congrArg some e13 | simp [e13])).trans rfl) ?_
      go_simp
      exact ⟨upd u 15 (.pointer (some ⟨w.heap.size, 6, none⟩)), by first | rfl | simp [upd, e14, e13], ⟨fun h => hT.s0 h, fun h => hT.s1 h, fun h => hT.s2 h, fun h => hT.s3 h, fun h => hT.s4 h, fun h => hT.s5 h, fun _ => rfl, fun h => hT.s7 h, fun h => hT.s8 h, fun h => hT.s9 h, fun h => hT.s10 h, fun h => hT.s11 h, fun h => hT.s12 h, fun h => hT.s13 h, fun h => hT.s24 h, fun h => hT.s25 h⟩, hW⟩
    · obtain ⟨⟨m0, m1, m2, m3, m4, m5⟩, m6, m7, m8⟩ := HK.out w' hW
      have d6 : D 6 = true := hn 6 (needs_rc (by kernel_rfl))
      have e15 := hT.s6 d6
      have d4 : D 4 = true := hn 4 (needs_rc (by kernel_rfl))
      have e13 := hT.s4 d4
      refine wpOp_want rfl ((wanted_rc (k := 4) (b := true) (c := true) (s := 13) rfl rfl (by first | exact congrArg some e13 | simp [e13])).trans rfl) ?_
      go_simp
      exact ⟨upd u 16 (.int .i64 idx), by first | rfl | simp [upd, e15, e13], ⟨fun h => hT.s0 h, fun h => hT.s1 h, fun h => hT.s2 h, fun h => hT.s3 h, fun h => hT.s4 h, fun h => hT.s5 h, fun h => hT.s6 h, fun _ => rfl, fun h => hT.s8 h, fun h => hT.s9 h, fun h => hT.s10 h, fun h => hT.s11 h, fun h => hT.s12 h, fun h => hT.s13 h, fun h => hT.s24 h, fun h => hT.s25 h⟩, hW⟩
    · have d4 : D 4 = true := hn 4 (needs_rc (by kernel_rfl))
      have e13 := hT.s4 d4
      refine wpOp_want rfl ((wanted_rc (k := 4) (b := true) (c := true) (s := 13) rfl rfl (by first | exact congrArg some e13 | simp [e13])).trans rfl) ?_
      go_simp
      exact ⟨upd u 17 (.pointer (some ⟨w.heap.size, 0, none⟩)), by first | rfl | simp [upd, e13], ⟨fun h => hT.s0 h, fun h => hT.s1 h, fun h => hT.s2 h, fun h => hT.s3 h, fun h => hT.s4 h, fun h => hT.s5 h, fun h => hT.s6 h, fun h => hT.s7 h, fun _ => rfl, fun h => hT.s9 h, fun h => hT.s10 h, fun h => hT.s11 h, fun h => hT.s12 h, fun h => hT.s13 h, fun h => hT.s24 h, fun h => hT.s25 h⟩, hW⟩
    · have d8 : D 8 = true := hn 8 (needs_rc (by kernel_rfl))
      have e17 := hT.s8 d8
      have d4 : D 4 = true := hn 4 (needs_rc (by kernel_rfl))
      have e13 := hT.s4 d4
      refine wpOp_want rfl ((wanted_rc (k := 4) (b := true) (c := true) (s := 13) rfl rfl (by first | exact congrArg some e13 | simp [e13])).trans rfl) ?_
      go_simp
      exact ⟨upd u 18 (.pointer (some ⟨w.heap.size, 0, none⟩)), by first | rfl | simp [upd, e17, e13], ⟨fun h => hT.s0 h, fun h => hT.s1 h, fun h => hT.s2 h, fun h => hT.s3 h, fun h => hT.s4 h, fun h => hT.s5 h, fun h => hT.s6 h, fun h => hT.s7 h, fun h => hT.s8 h, fun _ => rfl, fun h => hT.s10 h, fun h => hT.s11 h, fun h => hT.s12 h, fun h => hT.s13 h, fun h => hT.s24 h, fun h => hT.s25 h⟩, hW⟩
    · obtain ⟨⟨m0, m1, m2, m3, m4, m5⟩, m6, m7, m8⟩ := HK.out w' hW
      have d9 : D 9 = true := hn 9 (needs_rc (by kernel_rfl))
      have e18 := hT.s9 d9
      have d4 : D 4 = true := hn 4 (needs_rc (by kernel_rfl))
      have e13 := hT.s4 d4
      refine wpOp_want rfl ((wanted_rc (k := 4) (b := true) (c := true) (s := 13) rfl rfl (by first | exact congrArg some e13 | simp [e13])).trans rfl) ?_
      go_simp
      exact ⟨upd u 19 (.int .i64 ep), by first | rfl | simp [upd, e18, e13], ⟨fun h => hT.s0 h, fun h => hT.s1 h, fun h => hT.s2 h, fun h => hT.s3 h, fun h => hT.s4 h, fun h => hT.s5 h, fun h => hT.s6 h, fun h => hT.s7 h, fun h => hT.s8 h, fun h => hT.s9 h, fun _ => rfl, fun h => hT.s11 h, fun h => hT.s12 h, fun h => hT.s13 h, fun h => hT.s24 h, fun h => hT.s25 h⟩, hW⟩
    · have d7 : D 7 = true := hn 7 (needs_rc (by kernel_rfl))
      have e16 := hT.s7 d7
      have d10 : D 10 = true := hn 10 (needs_rc (by kernel_rfl))
      have e19 := hT.s10 d10
      have d4 : D 4 = true := hn 4 (needs_rc (by kernel_rfl))
      have e13 := hT.s4 d4
      refine wpOp_want rfl ((wanted_rc (k := 4) (b := true) (c := true) (s := 13) rfl rfl (by first | exact congrArg some e13 | simp [e13])).trans rfl) ?_
      go_simp
      exact ⟨upd u 20 (.bool false), by first | rfl | simp [upd, e16, e19, e13], ⟨fun h => hT.s0 h, fun h => hT.s1 h, fun h => hT.s2 h, fun h => hT.s3 h, fun h => hT.s4 h, fun h => hT.s5 h, fun h => hT.s6 h, fun h => hT.s7 h, fun h => hT.s8 h, fun h => hT.s9 h, fun h => hT.s10 h, fun _ => rfl, fun h => hT.s12 h, fun h => hT.s13 h, fun h => hT.s24 h, fun h => hT.s25 h⟩, hW⟩
    · have d4 : D 4 = true := hn 4 (needs_rc (by kernel_rfl))
      have e13 := hT.s4 d4
      have d11 : D 11 = true := hn 11 (needs_rc (by kernel_rfl))
      have e20 := hT.s11 d11
      refine wpOp_plain rfl rfl ?_
      go_simp
      exact ⟨upd u 21 (.bool false), by first | rfl | simp [upd, e13, e20], ⟨fun h => hT.s0 h, fun h => hT.s1 h, fun h => hT.s2 h, fun h => hT.s3 h, fun h => hT.s4 h, fun h => hT.s5 h, fun h => hT.s6 h, fun h => hT.s7 h, fun h => hT.s8 h, fun h => hT.s9 h, fun h => hT.s10 h, fun h => hT.s11 h, fun _ => rfl, fun h => hT.s13 h, fun h => hT.s24 h, fun h => hT.s25 h⟩, hW⟩
    · have d12 : D 12 = true := hn 12 (needs_rc (by kernel_rfl))
      have e21 := hT.s12 d12
      refine wpOp_plain rfl rfl ?_
      go_simp
      exact ⟨upd u 22 (.bool false), by first | rfl | simp [upd, e21], ⟨fun h => hT.s0 h, fun h => hT.s1 h, fun h => hT.s2 h, fun h => hT.s3 h, fun h => hT.s4 h, fun h => hT.s5 h, fun h => hT.s6 h, fun h => hT.s7 h, fun h => hT.s8 h, fun h => hT.s9 h, fun h => hT.s10 h, fun h => hT.s11 h, fun h => hT.s12 h, fun _ => rfl, fun h => hT.s24 h, fun h => hT.s25 h⟩, hW⟩
    · have d13 : D 13 = true := hn 13 (needs_rc (by kernel_rfl))
      have e22 := hT.s13 d13
      refine wpOp_skip rfl ((wanted_rc (k := 13) (b := true) (c := false) (s := 22) rfl rfl (by first | exact congrArg some e22 | simp [e22])).trans rfl) ?_
      exact ⟨upd u 23 undef, rfl, ⟨fun h => hT.s0 h, fun h => hT.s1 h, fun h => hT.s2 h, fun h => hT.s3 h, fun h => hT.s4 h, fun h => hT.s5 h, fun h => hT.s6 h, fun h => hT.s7 h, fun h => hT.s8 h, fun h => hT.s9 h, fun h => hT.s10 h, fun h => hT.s11 h, fun h => hT.s12 h, fun h => hT.s13 h, fun h => hT.s24 h, fun h => hT.s25 h⟩, hW⟩
    · have d13 : D 13 = true := hn 13 (needs_rc (by kernel_rfl))
      have e22 := hT.s13 d13
      refine wpOp_skip rfl ((wanted_rc (k := 13) (b := true) (c := false) (s := 22) rfl rfl (by first | exact congrArg some e22 | simp [e22])).trans rfl) ?_
      exact ⟨upd u 24 undef, rfl, ⟨fun h => hT.s0 h, fun h => hT.s1 h, fun h => hT.s2 h, fun h => hT.s3 h, fun h => hT.s4 h, fun h => hT.s5 h, fun h => hT.s6 h, fun h => hT.s7 h, fun h => hT.s8 h, fun h => hT.s9 h, fun h => hT.s10 h, fun h => hT.s11 h, fun h => hT.s12 h, fun h => hT.s13 h, fun h => hT.s24 h, fun h => hT.s25 h⟩, hW⟩
    · have d13 : D 13 = true := hn 13 (needs_rc (by kernel_rfl))
      have e22 := hT.s13 d13
      refine wpOp_skip rfl ((wanted_rc (k := 13) (b := true) (c := false) (s := 22) rfl rfl (by first | exact congrArg some e22 | simp [e22])).trans rfl) ?_
      exact ⟨upd u 25 undef, rfl, ⟨fun h => hT.s0 h, fun h => hT.s1 h, fun h => hT.s2 h, fun h => hT.s3 h, fun h => hT.s4 h, fun h => hT.s5 h, fun h => hT.s6 h, fun h => hT.s7 h, fun h => hT.s8 h, fun h => hT.s9 h, fun h => hT.s10 h, fun h => hT.s11 h, fun h => hT.s12 h, fun h => hT.s13 h, fun h => hT.s24 h, fun h => hT.s25 h⟩, hW⟩
    · have d13 : D 13 = true := hn 13 (needs_rc (by kernel_rfl))
      have e22 := hT.s13 d13
      refine wpOp_skip rfl ((wanted_rc (k := 13) (b := true) (c := false) (s := 22) rfl rfl (by first | exact congrArg some e22 | simp [e22])).trans rfl) ?_
      exact ⟨upd u 26 undef, rfl, ⟨fun h => hT.s0 h, fun h => hT.s1 h, fun h => hT.s2 h, fun h => hT.s3 h, fun h => hT.s4 h, fun h => hT.s5 h, fun h => hT.s6 h, fun h => hT.s7 h, fun h => hT.s8 h, fun h => hT.s9 h, fun h => hT.s10 h, fun h => hT.s11 h, fun h => hT.s12 h, fun h => hT.s13 h, fun h => hT.s24 h, fun h => hT.s25 h⟩, hW⟩
    · have d13 : D 13 = true := hn 13 (needs_rc (by kernel_rfl))
      have e22 := hT.s13 d13
      refine wpOp_skip rfl ((wanted_rc (k := 13) (b := true) (c := false) (s := 22) rfl rfl (by first | exact congrArg some e22 | simp [e22])).trans rfl) ?_
      exact ⟨upd u 27 undef, rfl, ⟨fun h => hT.s0 h, fun h => hT.s1 h, fun h => hT.s2 h, fun h => hT.s3 h, fun h => hT.s4 h, fun h => hT.s5 h, fun h => hT.s6 h, fun h => hT.s7 h, fun h => hT.s8 h, fun h => hT.s9 h, fun h => hT.s10 h, fun h => hT.s11 h, fun h => hT.s12 h, fun h => hT.s13 h, fun h => hT.s24 h, fun h => hT.s25 h⟩, hW⟩
    · have d13 : D 13 = true := hn 13 (needs_rc (by kernel_rfl))
      have e22 := hT.s13 d13
      refine wpOp_skip rfl ((wanted_rc (k := 13) (b := true) (c := false) (s := 22) rfl rfl (by first | exact congrArg some e22 | simp [e22])).trans rfl) ?_
      exact ⟨upd u 28 undef, rfl, ⟨fun h => hT.s0 h, fun h => hT.s1 h, fun h => hT.s2 h, fun h => hT.s3 h, fun h => hT.s4 h, fun h => hT.s5 h, fun h => hT.s6 h, fun h => hT.s7 h, fun h => hT.s8 h, fun h => hT.s9 h, fun h => hT.s10 h, fun h => hT.s11 h, fun h => hT.s12 h, fun h => hT.s13 h, fun h => hT.s24 h, fun h => hT.s25 h⟩, hW⟩
    · have d13 : D 13 = true := hn 13 (needs_rc (by kernel_rfl))
      have e22 := hT.s13 d13
      refine wpOp_skip rfl ((wanted_rc (k := 13) (b := true) (c := false) (s := 22) rfl rfl (by first | exact congrArg some e22 | simp [e22])).trans rfl) ?_
      exact ⟨upd u 29 undef, rfl, ⟨fun h => hT.s0 h, fun h => hT.s1 h, fun h => hT.s2 h, fun h => hT.s3 h, fun h => hT.s4 h, fun h => hT.s5 h, fun h => hT.s6 h, fun h => hT.s7 h, fun h => hT.s8 h, fun h => hT.s9 h, fun h => hT.s10 h, fun h => hT.s11 h, fun h => hT.s12 h, fun h => hT.s13 h, fun h => hT.s24 h, fun h => hT.s25 h⟩, hW⟩
    · have d13 : D 13 = true := hn 13 (needs_rc (by kernel_rfl))
      have e22 := hT.s13 d13
      refine wpOp_skip rfl ((wanted_rc (k := 13) (b := true) (c := false) (s := 22) rfl rfl (by first | exact congrArg some e22 | simp [e22])).trans rfl) ?_
      exact ⟨upd u 30 undef, rfl, ⟨fun h => hT.s0 h, fun h => hT.s1 h, fun h => hT.s2 h, fun h => hT.s3 h, fun h => hT.s4 h, fun h => hT.s5 h, fun h => hT.s6 h, fun h => hT.s7 h, fun h => hT.s8 h, fun h => hT.s9 h, fun h => hT.s10 h, fun h => hT.s11 h, fun h => hT.s12 h, fun h => hT.s13 h, fun h => hT.s24 h, fun h => hT.s25 h⟩, hW⟩
    · have d13 : D 13 = true := hn 13 (needs_rc (by kernel_rfl))
      have e22 := hT.s13 d13
      refine wpOp_skip rfl ((wanted_rc (k := 13) (b := true) (c := false) (s := 22) rfl rfl (by first | exact congrArg some e22 | simp [e22])).trans rfl) ?_
      exact ⟨upd u 31 undef, rfl, ⟨fun h => hT.s0 h, fun h => hT.s1 h, fun h => hT.s2 h, fun h => hT.s3 h, fun h => hT.s4 h, fun h => hT.s5 h, fun h => hT.s6 h, fun h => hT.s7 h, fun h => hT.s8 h, fun h => hT.s9 h, fun h => hT.s10 h, fun h => hT.s11 h, fun h => hT.s12 h, fun h => hT.s13 h, fun h => hT.s24 h, fun h => hT.s25 h⟩, hW⟩
    · have d13 : D 13 = true := hn 13 (needs_rc (by kernel_rfl))
      have e22 := hT.s13 d13
      refine wpOp_skip rfl ((wanted_rc (k := 13) (b := true) (c := false) (s := 22) rfl rfl (by first | exact congrArg some e22 | simp [e22])).trans rfl) ?_
      exact ⟨upd u 32 undef, rfl, ⟨fun h => hT.s0 h, fun h => hT.s1 h, fun h => hT.s2 h, fun h => hT.s3 h, fun h => hT.s4 h, fun h => hT.s5 h, fun h => hT.s6 h, fun h => hT.s7 h, fun h => hT.s8 h, fun h => hT.s9 h, fun h => hT.s10 h, fun h => hT.s11 h, fun h => hT.s12 h, fun h => hT.s13 h, fun h => hT.s24 h, fun h => hT.s25 h⟩, hW⟩
    · have d13 : D 13 = true := hn 13 (needs_rc (by kernel_rfl))
      have e22 := hT.s13 d13
      refine wpOp_plain rfl rfl ?_
      go_simp
      exact ⟨upd u 33 (.bool false), by first | rfl | simp [upd, e22], ⟨fun h => hT.s0 h, fun h => hT.s1 h, fun h => hT.s2 h, fun h => hT.s3 h, fun h => hT.s4 h, fun h => hT.s5 h, fun h => hT.s6 h, fun h => hT.s7 h, fun h => hT.s8 h, fun h => hT.s9 h, fun h => hT.s10 h, fun h => hT.s11 h, fun h => hT.s12 h, fun h => hT.s13 h, fun _ => rfl, fun h => hT.s25 h⟩, hW⟩
    · have d24 : D 24 = true := hn 24 (needs_rc (by kernel_rfl))
      have e33 := hT.s24 d24
      refine wpOp_plain rfl rfl ?_
      go_simp
      exact ⟨upd u 8 (.bool false), by first | rfl | simp [upd, e33], ⟨fun h => hT.s0 h, fun h => hT.s1 h, fun h => hT.s2 h, fun h => hT.s3 h, fun h => hT.s4 h, fun h => hT.s5 h, fun h => hT.s6 h, fun h => hT.s7 h, fun h => hT.s8 h, fun h => hT.s9 h, fun h => hT.s10 h, fun h => hT.s11 h, fun h => hT.s12 h, fun h => hT.s13 h, fun h => hT.s24 h, fun _ => rfl⟩, hW⟩
  case fin =>
    intro D a w' hI hall
    obtain ⟨u, rfl, hT, hW⟩ := hI
    have e8 := hT.s25 (hall 25 (by decide))
    have hbz := below_trans2 HB1.out hW
    clear hT hall hW
    go_wp2
    go_ret
    exact ⟨by first | exact (congrArg Ending.returned e8).trans (ret_bool HC.out.symm) | (rw [e8]; exact ret_bool HC.out.symm) | exact ret_bool HC.out.symm, hbz⟩

end Go.Proofs.YtjhannlioddkkaaGreatDoor

namespace Go.Proofs.YtjhannlioddkkaaGreatDoor
open Go.RowKit
set_option linter.unusedVariables false

set_option maxRecDepth 100000 in
set_option maxHeartbeats 4000000 in
theorem rcheck_any (size height : Int) (vp : Value) (pub : List Int) (ep ti : Int) (tr : List Int) (co : Int) (li : List Int) (ln : List (List Int)) (idx : Int) (parts path : List (List Int)) (v : Value) (w : World) (hz0 : -9223372036854775808 ≤ size) (hz1 : size ≤ 9223372036854775807) (hx0 : -9223372036854775808 ≤ idx) (hx1 : idx ≤ 9223372036854775807)
    (hB : (IsB tr ∧ IsB li ∧ ∀ p ∈ ln, IsB p) ∧ (∀ p ∈ parts, IsB p) ∧ ∀ p ∈ path, IsB p) (hg : SgnV w v ep ti tr co li ln idx parts path) (hBp : IsB pub) (hp : Sl w vp (pub.map (Value.int .u8))) :
    Calls Tryz.prog 12 #[.int .i64 size, .int .i64 height, vp, v] w fun e w' => e = .returned (.bool (chkB size height pub ep ti tr co li ln idx parts path)) ∧ Below w.heap.size w w' := by
  by_cases hC : canI size ep ti tr co li ln
  rotate_left
  · exact rcheck_no1 size height vp pub ep ti tr co li ln idx parts path v w hz0 hz1 hx0 hx1 hB hg hC hBp hp
  by_cases hI : idx = ep
  rotate_left
  · exact rcheck_no2 size height vp pub ep ti tr co li ln idx parts path v w hz0 hz1 hx0 hx1 hB hg hC hI hBp hp
  have HI := Lib.hid hI
  have HCA := Lib.hid hC
  clear hI hC
  obtain ⟨vt, vl, vk, vq1, vq2, rfl, hr, hs⟩ := hg
  obtain ⟨ta, tn, tc, la, lc, lcc, ka, kc, he⟩ := hr.val
  cases he
  obtain ⟨pa, pc, qa, qc, he⟩ := hs.val
  cases he
  obtain ⟨va, vn, vc, rfl⟩ := hp.val
  have hb1 : Below w.heap.size w (w.alloc (.cells #[.int .i64 ep, .int .i64 ti, .slice ta tn tc, .int .i64 co, .slice la lc lcc, .slice ka ln.length kc, .int .i64 idx, .slice pa parts.length pc, .slice qa path.length qc] 29)) := (Below.refl _ _).alloc (Nat.le_refl _) _
  have kR := Blk.new w 29 #[.int .i64 ep, .int .i64 ti, .slice ta tn tc, .int .i64 co, .slice la lc lcc, .slice ka ln.length kc, .int .i64 idx, .slice pa parts.length pc, .slice qa path.length qc]
  have HB1 := Lib.hid hb1
  have HRR := Lib.hid (fun w' (h : Below w.heap.size w w') => hr.below h (Nat.le_refl _))
  have HCN := Lib.hid (fun w' (h : Below w.heap.size w w') => rcan_any size ep ti tr co li ln _ w' hz0 hz1 (hr.below h (Nat.le_refl _)))
  have HHA := Lib.hid (fun w' (h : Below w.heap.size w w') => refrhash_any size ep ti tr co li ln _ w' hz0 hz1 hB.1 (hr.below h (Nat.le_refl _)))
  have HV := Lib.hid (fun w' vd (h : Below w.heap.size w w') (hd : Sl w' vd ((hashR size ep ti tr co li ln).map (Value.int .u8))) => refVerify_any size (.slice va vn vc) pub height vd _ _ idx parts path w' hz0 hz1 hx0 hx1 hBp (hp.below h (Nat.le_refl _)) (hashR_isB _ _ _ _ _ _ _) hd hB.2.1 hB.2.2 (hs.below h (Nat.le_refl _)))
  have HC : Hid (chkB size height pub ep ti tr co li ln idx parts path = if canI size ep ti tr co li ln then (if idx = ep then verB size pub height (hashR size ep ti tr co li ln) idx parts path else false) else false) := rfl
  generalize chkB size height pub ep ti tr co li ln idx parts path = CB at *
  generalize hashR size ep ti tr co li ln = HS at *
  clear hr hs hB hp hBp
  go_enter Tryz.func12, Tryz.ntmps12
  go_upto_region 1 with (fail)
  generalize (w.alloc (.cells #[.int .i64 ep, .int .i64 ti, .slice ta tn tc, .int .i64 co, .slice la lc lcc, .slice ka ln.length kc, .int .i64 idx, .slice pa parts.length pc, .slice qa path.length qc] 29)) = w1 at *
  clear hb1
  obtain ⟨⟨c0, c1, c2, c3, c4, c5⟩, c6, c7, c8⟩ := rec9 kR
  have HK := Lib.hid (fun w' (h : Below w1.heap.size w1 w') => rec9 (kR.belowS h))
  have hG := Lib.hid (HK.out _ (Below.refl _ _))
  clear kR
  rw [decide_eq_true HCA.out] at HCN
  rw [if_pos HCA.out, if_pos HI.out] at HC
  have hI' : (idx == ep) = true := by simpa using HI.out
  clear c0 c1 c2 c3 c4 c5 c6 c7 c8
  go_region_held3 (fun w' => (w'.cell? ⟨w.heap.size, 0, none⟩ = some (.int .i64 ep) ∧ w'.cell? ⟨w.heap.size, 1, none⟩ = some (.int .i64 ti) ∧ w'.cell? ⟨w.heap.size, 2, none⟩ = some (.slice ta tn tc) ∧ w'.cell? ⟨w.heap.size, 3, none⟩ = some (.int .i64 co) ∧ w'.cell? ⟨w.heap.size, 4, none⟩ = some (.slice la lc lcc) ∧ w'.cell? ⟨w.heap.size, 5, none⟩ = some (.slice ka ln.length kc)) ∧ w'.cell? ⟨w.heap.size, 6, none⟩ = some (.int .i64 idx) ∧ w'.cell? ⟨w.heap.size, 7, none⟩ = some (.slice pa parts.length pc) ∧ w'.cell? ⟨w.heap.size, 8, none⟩ = some (.slice qa path.length qc)) (exact hG.out) (first
    | (go_at_call 35; refine (HV.out w4 _ (below_trans2 HB1.out hb4) hx4).mono ?_; rintro e w5 ⟨rfl, hb5⟩; have hb5 := below_trans2 hb4 hb5; have hG := Lib.hid (HK.out _ hb5))
    | (go_at_call 36; refine (HHA.out w3 (below_trans2 HB1.out hb3)).mono ?_; rintro e w4 ⟨x4, rfl, hx4, hb4⟩; obtain ⟨xa4, xn4, xc4, rfl⟩ := hx4.val; have hb4 := below_trans2 hb3 hb4; have hG := Lib.hid (HK.out _ hb4))
    | (go_at_call 34; refine (HCN.out _ (by first | exact HB1.out | exact HB1.out.drew)).mono ?_; rintro e w3 ⟨rfl, hb3⟩; have hb3 : Below w1.heap.size w1 w3 := ⟨hb3.os, hb3.tape, hb3.output, hb3.size, hb3.block⟩; have hG := Lib.hid (HK.out _ hb3)))
  all_goals
    have hbz := below_trans2 HB1.out hb5
    go_wp2
    go_ret
    exact ⟨ret_bool HC.out.symm, hbz⟩

end Go.Proofs.YtjhannlioddkkaaGreatDoor

namespace Go.Proofs.YtjhannlioddkkaaGreatDoor
open Go.RowKit
set_option linter.unusedVariables false

/-- Some texts behind bytes. -/
def catTo (a : List Int) (pss : List (List Int)) (k : Nat) : List Int := a ++ (pss.take k).flatten
theorem catTo_zero (a : List Int) (pss : List (List Int)) : catTo a pss 0 = a := by simp [catTo]
theorem catTo_all (a : List Int) (pss : List (List Int)) : catTo a pss pss.length = a ++ pss.flatten := by simp [catTo]
theorem catTo_succ (a : List Int) (pss : List (List Int)) (k : Nat) (hk : k < pss.length) : catTo a pss (k + 1) = catTo a pss k ++ pss.getD k [] := by
  unfold catTo
  rw [flat_succ pss k hk, List.append_assoc]
theorem catTo_len (a : List Int) (pss : List (List Int)) (k : Nat) : (catTo a pss k).length ≤ a.length + pss.flatten.length := by
  unfold catTo
  rw [List.length_append]
  exact Nat.add_le_add_left (flat_le pss k) _

set_option maxRecDepth 100000 in
set_option maxHeartbeats 4000000 in
theorem rswrite_any (v : Value) (bs : List Int) (sv : Value) (idx : Int) (parts path : List (List Int)) (w : World) (h0 : 0 ≤ idx) (h1 : idx ≤ 4611686018427387904) (hT : (sigTo bs idx parts path 2).length ≤ 100000000000000) (hs : Sl w v (bs.map (Value.int .u8))) (hg : SigV w sv idx parts path) :
    Calls Tryz.prog 21 #[v, sv] w fun e w' => ∃ x, e = .returned x ∧ w'.ownsRow w.heap.size 5 1 x (sigTo bs idx parts path 2).length ((sigTo bs idx parts path 2).map (Value.int .u8)) ∧ Below w.heap.size w w' := by
  obtain ⟨pa, pc, qa, qc, rfl⟩ := hg.val
  obtain ⟨g1, g2⟩ := hg.parts
  have hS0 : sigTo bs idx parts path 2 = (sigTo bs idx parts path 0 ++ parts.flatten) ++ path.flatten := rfl
  have hLL : (sigTo bs idx parts path 0).length + parts.flatten.length + path.flatten.length ≤ 100000000000000 := by rw [hS0] at hT; simpa [Nat.add_assoc] using hT
  have hb1 : Below w.heap.size w (w.alloc (.cells #[.int .i64 idx, .slice pa parts.length pc, .slice qa path.length qc] 27)) := (Below.refl _ _).alloc (Nat.le_refl _) _
  have kS := Blk.new w 27 #[.int .i64 idx, .slice pa parts.length pc, .slice qa path.length qc]
  have hU0 : (sigTo bs idx parts path 0).length = bs.length + (uintN idx.toNat).length := List.length_append
  have HU := Lib.hid (ruint_any v bs idx (w.alloc (.cells #[.int .i64 idx, .slice pa parts.length pc, .slice qa path.length qc] 27)) (by omega) (hs.below hb1 (Nat.le_refl _)) h0 h1)
  have HG1 := Lib.hid (fun w' (h : Below w.heap.size w w') => g1.below h (Nat.le_refl _))
  have HG2 := Lib.hid (fun w' (h : Below w.heap.size w w') => g2.below h (Nat.le_refl _))
  have HLL := Lib.hid hLL
  have HS0 := Lib.hid hS0
  have HPL := Lib.hid (show parts.length ≤ 9223372036854775807 by obtain ⟨_, _, _, h3, h4⟩ := g1.shape; exact Nat.le_trans h3 h4)
  have HQL := Lib.hid (show path.length ≤ 9223372036854775807 by obtain ⟨_, _, _, h3, h4⟩ := g2.shape; exact Nat.le_trans h3 h4)
  clear hs hg g1 g2 hT hLL hS0 h0 h1
  obtain ⟨i0, hi, hz0, hz1, hz2⟩ := info_parts info8c
  go_enter Tryz.func21, Tryz.ntmps21
  go_wp2_with fail
  refine HU.out.mono ?_
  rintro e w2 ⟨x, rfl, hO, hb2⟩
  have hbr := below_trans2 hb1 hb2
  have hO : w2.ownsRow w.heap.size 5 1 x (catTo (sigTo bs idx parts path 0) parts 0).length ((catTo (sigTo bs idx parts path 0) parts 0).map (Value.int .u8)) := by
    rw [catTo_zero, hU0]
    exact ownsRow_base hO (by simp)
  have kS := kS.belowS hb2
  obtain ⟨c0, c1, c2⟩ := rec3 kS
  generalize sigTo bs idx parts path 0 = S0 at *
  clear HU hb1 hb2 hU0
  have HKS := Lib.hid kS
  clear kS
  go_wp2
  go_loopw [5, 17] (fun b i wr => ∃ (k : Nat) (bv : Value), bv = b ∧ k ≤ parts.length ∧ i = .int .i64 k ∧ wr.ownsRow w.heap.size 5 1 bv (catTo S0 parts k).length ((catTo S0 parts k).map (Value.int .u8)) ∧ Below w.heap.size w wr ∧ Blk wr w.heap.size 27 #[.int .i64 idx, .slice pa parts.length pc, .slice qa path.length qc]) (fun _ i _ => parts.length - (intOf i).toNat)
  case atStart => exact ⟨0, _, rfl, by omega, rfl, hO, hbr, HKS.out⟩
  case round =>
    clear hO hbr c0 c1 c2
    obtain ⟨k, bv, rfl, hk, rfl, hO, hbr, kS⟩ := hrel
    by_cases hlt : k < parts.length
    · obtain ⟨b1, o1, rfl, hb1, u1, k1, t1⟩ := (HG1.out wr hbr).at hlt
      have hkI : (k : Int) < (parts.length : Int) := by omega
      have HSU := Lib.hid (catTo_succ S0 parts k hlt)
      have HCL := Lib.hid (show (catTo S0 parts k).length + (parts.getD k []).length ≤ 100000000000000 by
        have h1 := catTo_len S0 parts (k + 1)
        have h2 := HLL.out
        rw [catTo_succ S0 parts k hlt, List.length_append] at h1
        omega)
      have HKS := Lib.hid kS
      have HKW := Lib.hid (show wrap64 ((k : Int) + 1) = ((k + 1 : Nat) : Int) by have := HPL.out; unfold wrap64; omega)
      generalize parts.getD k [] = P at *
      generalize catTo S0 parts k = S1 at *
      obtain ⟨xa, xn, xc, rfl⟩ := t1.val
      clear kS hk
      go_wp2_with (at_builtin; refine wpList_append_sl rfl _ _ 22 rfl w.heap.size 5 i0 (.int .u8 0) 1 Tryz.underlying22 hi hz0 hz1 hz2 rfl _ S1.length (S1.map (Value.int .u8)) rfl hO (.slice xa xn xc) (P.map (Value.int .u8)) rfl t1 (one8 _) (by have h1 := HCL.out; rw [List.length_map]; unfold maxLen; omega) (by have h1 := HCL.out; rw [List.length_map]; omega) hbr.size ?_)
      intro xv w4 hown4 hg4
      have hb4 := below_grown hbr hO (Nat.le_refl _) hbr.size hg4
      have kS4 := HKS.out.grown hg4 (fun e => own_blk_ne hO HKS.out (by decide) e.symm)
      rw [← List.length_append, ← List.map_append, ← HSU.out] at hown4
      have HO4 := Lib.hid hown4
      clear hO hbr hown4 hg4
      go_wp2
      go_roundw
      case rel => exact ⟨k + 1, _, rfl, by omega, by rw [HKW.out], HO4.out, hb4, kS4⟩
      case measure => rw [HKW.out]; simp [intOf]; omega
    · obtain rfl : k = parts.length := by omega
      have hkI : ¬ (parts.length : Int) < (parts.length : Int) := by omega
      obtain ⟨c0, c1, c2⟩ := rec3 kS
      have hO2 : wr.ownsRow w.heap.size 5 1 bv (catTo (S0 ++ parts.flatten) path 0).length ((catTo (S0 ++ parts.flatten) path 0).map (Value.int .u8)) := by
        rw [catTo_zero, ← catTo_all]; exact hO
      have HLM := Lib.hid (show (S0 ++ parts.flatten).length + path.flatten.length ≤ 100000000000000 by have := HLL.out; rw [List.length_append]; omega)
      generalize S0 ++ parts.flatten = S2 at *
      have HKS := Lib.hid kS
      generalize wr = wz at *
      clear hO kS hlt hk
      go_wp2
      go_loopw [5, 28] (fun b i wr => ∃ (k : Nat) (bv : Value), bv = b ∧ k ≤ path.length ∧ i = .int .i64 k ∧ wr.ownsRow w.heap.size 5 1 bv (catTo S2 path k).length ((catTo S2 path k).map (Value.int .u8)) ∧ Below w.heap.size w wr) (fun _ i _ => path.length - (intOf i).toNat)
      case atStart => exact ⟨0, _, rfl, by omega, rfl, hO2, hbr⟩
      case round =>
        clear hO2 hbr c0 c1 c2
        obtain ⟨k, bv, rfl, hk, rfl, hO, hbr⟩ := hrel
        by_cases hlt : k < path.length
        · obtain ⟨b1, o1, rfl, hb1, u1, k1, t1⟩ := (HG2.out wr hbr).at hlt
          have hkI2 : (k : Int) < (path.length : Int) := by omega
          have HSU := Lib.hid (catTo_succ S2 path k hlt)
          have HCL := Lib.hid (show (catTo S2 path k).length + (path.getD k []).length ≤ 100000000000000 by
            have h1 := catTo_len S2 path (k + 1)
            have h2 := HLM.out
            rw [catTo_succ S2 path k hlt, List.length_append] at h1
            omega)
          have HKW := Lib.hid (show wrap64 ((k : Int) + 1) = ((k + 1 : Nat) : Int) by have := HQL.out; unfold wrap64; omega)
          generalize path.getD k [] = P at *
          generalize catTo S2 path k = S1 at *
          obtain ⟨xa, xn, xc, rfl⟩ := t1.val
          clear hk
          go_wp2_with (at_builtin; refine wpList_append_sl rfl _ _ 22 rfl w.heap.size 5 i0 (.int .u8 0) 1 Tryz.underlying22 hi hz0 hz1 hz2 rfl _ S1.length (S1.map (Value.int .u8)) rfl hO (.slice xa xn xc) (P.map (Value.int .u8)) rfl t1 (one8 _) (by have h1 := HCL.out; rw [List.length_map]; unfold maxLen; omega) (by have h1 := HCL.out; rw [List.length_map]; omega) hbr.size ?_)
          intro xv w4 hown4 hg4
          have hb4 := below_grown hbr hO (Nat.le_refl _) hbr.size hg4
          rw [← List.length_append, ← List.map_append, ← HSU.out] at hown4
          have HO4 := Lib.hid hown4
          clear hO hbr hown4 hg4
          go_wp2
          go_roundw
          case rel => exact ⟨k + 1, _, rfl, by omega, by rw [HKW.out], HO4.out, hb4⟩
          case measure => rw [HKW.out]; simp [intOf]; omega
        · obtain rfl : k = path.length := by omega
          have hkI2 : ¬ (path.length : Int) < (path.length : Int) := by omega
          have HF := Lib.hid (show wr.ownsRow w.heap.size 5 1 bv (sigTo bs idx parts path 2).length ((sigTo bs idx parts path 2).map (Value.int .u8)) by
            rw [HS0.out, ← catTo_all S2 path]; exact hO)
          clear hO
          go_wp2
          go_ret
          exact ⟨_, rfl, HF.out, hbr⟩

end Go.Proofs.YtjhannlioddkkaaGreatDoor

namespace Go.Proofs.YtjhannlioddkkaaGreatDoor
open Go.RowKit
set_option linter.unusedVariables false

set_option maxRecDepth 100000 in
set_option maxHeartbeats 4000000 in
theorem rwhole_any (size : Int) (sv : Value) (idx : Int) (parts path : List (List Int)) (w : World) (hg : SigV w sv idx parts path) :
    Calls Tryz.prog 20 #[.int .i64 size, sv] w fun e w' => e = .returned (.bool (decide (wholeI size idx parts path))) ∧ Below w.heap.size w w' := by
  obtain ⟨pa, pc, qa, qc, rfl⟩ := hg.val
  obtain ⟨g1, g2⟩ := hg.parts
  have hb1 : Below w.heap.size w (w.alloc (.cells #[.int .i64 idx, .slice pa parts.length pc, .slice qa path.length qc] 27)) := (Below.refl _ _).alloc (Nat.le_refl _) _
  have kS := Blk.new w 27 #[.int .i64 idx, .slice pa parts.length pc, .slice qa path.length qc]
  obtain ⟨c0, c1, c2⟩ := rec3 kS
  have HG1 := Lib.hid (fun w' (h : Below w.heap.size w w') => g1.below h (Nat.le_refl _))
  have HG2 := Lib.hid (fun w' (h : Below w.heap.size w w') => g2.below h (Nat.le_refl _))
  have HW : Hid (wholeI size idx parts path ↔ ((0 ≤ idx ∧ idx ≤ 255) ∧ (parts.length : Int) = wrap64 (wrap64 (4 * size) + 5) ∧ path.length ≤ 8 ∧ (∀ p ∈ parts, (p.length : Int) = size) ∧ ∀ p ∈ path, (p.length : Int) = size)) := ⟨fun h => h, fun h => h⟩
  have HB1 := Lib.hid hb1
  clear hg g1 g2 kS hb1
  go_enter Tryz.func20, Tryz.ntmps20
  go_upto_region 1 with (fail)
  generalize (w.alloc (.cells #[.int .i64 idx, .slice pa parts.length pc, .slice qa path.length qc] 27)) = w1 at *
  by_cases h0 : idx < 0
  · have HD := Lib.hid (show decide (wholeI size idx parts path) = false by
      simp only [decide_eq_false_iff_not]; intro hq; have := (HW.out.1 hq).1; omega)
    go_wp2
    go_ret
    exact ⟨ret_bool HD.out.symm, HB1.out⟩
  by_cases h1 : 255 < idx
  · have HD := Lib.hid (show decide (wholeI size idx parts path) = false by
      simp only [decide_eq_false_iff_not]; intro hq; have := (HW.out.1 hq).1; omega)
    go_wp2
    go_ret
    exact ⟨ret_bool HD.out.symm, HB1.out⟩
  by_cases h2 : (parts.length : Int) = wrap64 (wrap64 (4 * size) + 5)
  rotate_left
  · have u1 : ((parts.length : Int) != wrap64 (wrap64 (4 * size) + 5)) = true := by simp [h2]
    have HD := Lib.hid (show decide (wholeI size idx parts path) = false by
      simp only [decide_eq_false_iff_not]; intro hq; exact h2 (HW.out.1 hq).2.1)
    clear h2
    go_wp2
    go_ret
    exact ⟨ret_bool HD.out.symm, HB1.out⟩
  have u1 : ((parts.length : Int) != wrap64 (wrap64 (4 * size) + 5)) = false := by simp [h2]
  by_cases h3 : path.length ≤ 8
  rotate_left
  · have u2 : (8 : Int) < (path.length : Int) := by omega
    have HD := Lib.hid (show decide (wholeI size idx parts path) = false by
      simp only [decide_eq_false_iff_not]; intro hq; exact h3 (HW.out.1 hq).2.2.1)
    clear h2 h3
    go_wp2
    go_ret
    exact ⟨ret_bool HD.out.symm, HB1.out⟩
  have u2 : ¬ (8 : Int) < (path.length : Int) := by omega
  have HW : Hid (wholeI size idx parts path ↔ ((∀ p ∈ parts, (p.length : Int) = size) ∧ ∀ p ∈ path, (p.length : Int) = size)) := ⟨fun h => (HW.out.1 h).2.2.2, fun h => HW.out.2 ⟨⟨by omega, by omega⟩, h2, h3, h⟩⟩
  clear h2 h3
  have hbL : Below w1.heap.size w1 (w1.alloc (.cells #[.slice pa parts.length pc, .slice qa path.length qc] 23)) := (Below.refl _ _).alloc (Nat.le_refl _) _
  have kL := Blk.new w1 23 #[.slice pa parts.length pc, .slice qa path.length qc]
  have hbr := below_trans2 HB1.out hbL
  have HST := Lib.hid (And.intro hbr kL)
  clear hbL kL hbr
  go_wp2
  go_loopw [38] (fun i wr => ∃ k : Nat, k ≤ 2 ∧ i = .int .i64 k ∧ Hid ((1 ≤ k → ∀ p ∈ parts, (p.length : Int) = size) ∧ (2 ≤ k → ∀ p ∈ path, (p.length : Int) = size)) ∧ Below w.heap.size w wr ∧ Blk wr w1.heap.size 23 #[.slice pa parts.length pc, .slice qa path.length qc]) (fun i _ => 2 - (intOf i).toNat)
  case atStart => exact ⟨0, by omega, rfl, ⟨fun h => absurd h (by omega), fun h => absurd h (by omega)⟩, HST.out.1, HST.out.2⟩
  case round =>
    clear c0 c1 c2
    obtain ⟨k, hk, rfl, hall, hbr, kL⟩ := hrel
    obtain rfl | rfl | rfl : k = 0 ∨ k = 1 ∨ k = 2 := by omega
    all_goals clear hk
    · rw [show ((0 : Nat) : Int) = 0 from rfl]
      have HSL := Lib.hid (HG1.out wr hbr)
      have HAL := Lib.hid hall
      have HBR := Lib.hid hbr
      have HLL := Lib.hid (show parts.length ≤ 9223372036854775807 by obtain ⟨_, _, _, h3, h4⟩ := HSL.out.shape; exact Nat.le_trans h3 h4)
      have q0 : wr.cell? ⟨w1.heap.size, 0, none⟩ = some (.slice pa parts.length pc) := kL.cell 0
      have HKL := Lib.hid kL
      generalize wr = w3 at *
      clear hall hbr kL
      go_wp2
      go_loopw [44] (fun i wr => ∃ k : Nat, k ≤ parts.length ∧ i = .int .i64 k ∧ Hid (∀ j, j < k → ((parts.getD j []).length : Int) = size) ∧ w3 = wr) (fun i _ => parts.length - (intOf i).toNat)
      case atStart => exact ⟨0, by omega, rfl, fun j hj => absurd hj (by omega), rfl⟩
      case round =>
        obtain ⟨k, hk, rfl, hall, rfl⟩ := hrel
        by_cases hlt : k < parts.length
        · obtain ⟨b, off, rfl, hb, u, hu, hs⟩ := HSL.out.at hlt
          have hkI2 : (k : Int) < (parts.length : Int) := by omega
          have hmem : parts.getD k [] ∈ parts := by rw [List.getD_eq_getElem?_getD, List.getElem?_eq_getElem hlt]; exact List.getElem_mem hlt
          have HKW := Lib.hid (show wrap64 ((k : Int) + 1) = ((k + 1 : Nat) : Int) by have := HLL.out; unfold wrap64; omega)
          generalize hP : parts.getD k [] = P at *
          have HP := Lib.hid hP
          clear hP
          obtain ⟨ua, uc, rfl, _, _⟩ := hs.shape
          simp only [List.length_map] at *
          by_cases hx : (P.length : Int) = size
          · have HX := Lib.hid hx
            have hx' : ((P.length : Int) != size) = false := by simpa using hx
            clear hs hx
            go_wp2
            go_roundw
            case rel =>
              refine ⟨k + 1, by omega, by first | rw [HKW.out] | go_num, fun j hj => ?_, by first | rfl | trivial⟩
              rcases Nat.lt_or_ge j k with h | h
              · exact hall.out j h
              · obtain rfl : j = k := by omega
                rw [HP.out]; exact HX.out
            case measure => first | (rw [HKW.out]; simp [intOf]; omega) | (simp [intOf]; omega)
          · have hx' : ((P.length : Int) != size) = true := by simpa using hx
            have HD := Lib.hid (show decide (wholeI size idx parts path) = false by
              simp only [decide_eq_false_iff_not]
              intro hq
              exact hx ((HW.out.1 hq).1 _ hmem))
            clear hs hx
            go_wp2
            go_ret
            exact ⟨ret_bool HD.out.symm, HBR.out⟩
        · have hkI2 : ¬ (k : Int) < (parts.length : Int) := by omega
          have HN := Lib.hid (show ∀ p ∈ parts, (p.length : Int) = size from fun p hp => by
            obtain ⟨j, hj, rfl⟩ := List.mem_iff_getElem.1 hp
            have := hall.out j (by omega)
            rwa [List.getD_eq_getElem?_getD, List.getElem?_eq_getElem hj] at this)
          clear hall
          go_wp2
          exact ⟨⟨1, by omega, by go_num, ⟨fun _ => HN.out, fun h => absurd h (by omega)⟩, HBR.out, HKL.out⟩, by simp [intOf]⟩
    · rw [show ((1 : Nat) : Int) = 1 from rfl]
      have HSL := Lib.hid (HG2.out wr hbr)
      have HAL := Lib.hid hall
      have HBR := Lib.hid hbr
      have HLL := Lib.hid (show path.length ≤ 9223372036854775807 by obtain ⟨_, _, _, h3, h4⟩ := HSL.out.shape; exact Nat.le_trans h3 h4)
      have q0 : wr.cell? ⟨w1.heap.size, 1, none⟩ = some (.slice qa path.length qc) := kL.cell 1
      have HKL := Lib.hid kL
      generalize wr = w3 at *
      clear hall hbr kL
      go_wp2
      go_loopw [44] (fun i wr => ∃ k : Nat, k ≤ path.length ∧ i = .int .i64 k ∧ Hid (∀ j, j < k → ((path.getD j []).length : Int) = size) ∧ w3 = wr) (fun i _ => path.length - (intOf i).toNat)
      case atStart => exact ⟨0, by omega, rfl, fun j hj => absurd hj (by omega), rfl⟩
      case round =>
        obtain ⟨k, hk, rfl, hall, rfl⟩ := hrel
        by_cases hlt : k < path.length
        · obtain ⟨b, off, rfl, hb, u, hu, hs⟩ := HSL.out.at hlt
          have hkI2 : (k : Int) < (path.length : Int) := by omega
          have hmem : path.getD k [] ∈ path := by rw [List.getD_eq_getElem?_getD, List.getElem?_eq_getElem hlt]; exact List.getElem_mem hlt
          have HKW := Lib.hid (show wrap64 ((k : Int) + 1) = ((k + 1 : Nat) : Int) by have := HLL.out; unfold wrap64; omega)
          generalize hP : path.getD k [] = P at *
          have HP := Lib.hid hP
          clear hP
          obtain ⟨ua, uc, rfl, _, _⟩ := hs.shape
          simp only [List.length_map] at *
          by_cases hx : (P.length : Int) = size
          · have HX := Lib.hid hx
            have hx' : ((P.length : Int) != size) = false := by simpa using hx
            clear hs hx
            go_wp2
            go_roundw
            case rel =>
              refine ⟨k + 1, by omega, by first | rw [HKW.out] | go_num, fun j hj => ?_, by first | rfl | trivial⟩
              rcases Nat.lt_or_ge j k with h | h
              · exact hall.out j h
              · obtain rfl : j = k := by omega
                rw [HP.out]; exact HX.out
            case measure => first | (rw [HKW.out]; simp [intOf]; omega) | (simp [intOf]; omega)
          · have hx' : ((P.length : Int) != size) = true := by simpa using hx
            have HD := Lib.hid (show decide (wholeI size idx parts path) = false by
              simp only [decide_eq_false_iff_not]
              intro hq
              exact hx ((HW.out.1 hq).2 _ hmem))
            clear hs hx
            go_wp2
            go_ret
            exact ⟨ret_bool HD.out.symm, HBR.out⟩
        · have hkI2 : ¬ (k : Int) < (path.length : Int) := by omega
          have HN := Lib.hid (show ∀ p ∈ path, (p.length : Int) = size from fun p hp => by
            obtain ⟨j, hj, rfl⟩ := List.mem_iff_getElem.1 hp
            have := hall.out j (by omega)
            rwa [List.getD_eq_getElem?_getD, List.getElem?_eq_getElem hj] at this)
          clear hall
          go_wp2
          exact ⟨⟨2, by omega, by go_num, ⟨fun _ => HAL.out.1 (by omega), fun _ => HN.out⟩, HBR.out, HKL.out⟩, by simp [intOf]⟩
    · have HD := Lib.hid (show decide (wholeI size idx parts path) = true by
        simp only [decide_eq_true_eq]
        exact HW.out.2 ⟨hall.out.1 (by omega), hall.out.2 (by omega)⟩)
      clear hall
      go_wp2
      go_ret
      exact ⟨ret_bool HD.out.symm, hbr⟩

theorem rbytes_e0 (u : Value) (xs : List Int) (w : World) (hn : xs.length ≤ 100000000000000) (hu : Sl w u (xs.map (Value.int .u8))) :
    Calls Tryz.prog 22 #[.slice none 0 0, u] w fun e w' => ∃ v', e = .returned v' ∧ Sl w' v' ((bytesI xs).map (Value.int .u8)) ∧ Below w.heap.size w w' :=
  (rbytes_any (.slice none 0 0) [] u xs w (by simpa using hn) (Sl.nil _) hu).mono fun e w' ⟨v', he, ho, hb⟩ => ⟨v', he, by simpa using Sl.of_owns ho, hb⟩

set_option maxRecDepth 100000 in
set_option maxHeartbeats 4000000 in
theorem rseal_any (size ep ti : Int) (tr : List Int) (co : Int) (li : List Int) (ln : List (List Int)) (idx : Int) (parts path : List (List Int)) (v : Value) (w : World) (hz0 : -9223372036854775808 ≤ size) (hz1 : size ≤ 9223372036854775807) (hg : SgnV w v ep ti tr co li ln idx parts path) :
    Calls Tryz.prog 5 #[.int .i64 size, v] w fun e w' => ∃ x, e = .returned (.tuple #[x, .int .i64 (codeS size ep ti tr co li ln idx parts path)]) ∧ Sl w' x ((contS size ep ti tr co li ln idx parts path).map (Value.int .u8)) ∧ Below w.heap.size w w' := by
  obtain ⟨vt, vl, vk, vp, vq, rfl, hr, hgs⟩ := hg
  obtain ⟨ta, tn, tc, la, lc, lcc, ka, kc, he⟩ := hr.val
  cases he
  obtain ⟨pa, pc, qa, qc, he⟩ := hgs.val
  cases he
  have hb1 : Below w.heap.size w (w.alloc (.cells #[.int .i64 ep, .int .i64 ti, .slice ta tn tc, .int .i64 co, .slice la lc lcc, .slice ka ln.length kc, .int .i64 idx, .slice pa parts.length pc, .slice qa path.length qc] 29)) := (Below.refl _ _).alloc (Nat.le_refl _) _
  have kR := Blk.new w 29 #[.int .i64 ep, .int .i64 ti, .slice ta tn tc, .int .i64 co, .slice la lc lcc, .slice ka ln.length kc, .int .i64 idx, .slice pa parts.length pc, .slice qa path.length qc]
  have HE := Lib.hid (renc_any size ep ti tr co li ln _ (w.alloc (.cells #[.int .i64 ep, .int .i64 ti, .slice ta tn tc, .int .i64 co, .slice la lc lcc, .slice ka ln.length kc, .int .i64 idx, .slice pa parts.length pc, .slice qa path.length qc] 29)) hz0 hz1 (hr.below hb1 (Nat.le_refl _)))
  have HGS := Lib.hid (fun w' (h : Below w.heap.size w w') => hgs.below h (Nat.le_refl _))
  have HWA := Lib.hid (fun w' (h : Below w.heap.size w w') => rwhole_any size _ idx parts path w' (HGS.out w' h))
  have HDS := Lib.hid (show codeS size ep ti tr co li ln idx parts path = (if sealOk size ep ti tr co li ln idx parts path then 0 else 1) ∧ contS size ep ti tr co li ln idx parts path = (if sealOk size ep ti tr co li ln idx parts path then sealI ep ti tr co li ln idx parts path else []) from ⟨rfl, rfl⟩)
  generalize codeS size ep ti tr co li ln idx parts path = CC at *
  generalize contS size ep ti tr co li ln idx parts path = CB at *
  clear hr hgs
  have HSC : Hid (sealOk size ep ti tr co li ln idx parts path ↔ (canI size ep ti tr co li ln ∧ wholeI size idx parts path)) := ⟨fun h => h, fun h => h⟩
  obtain ⟨-, d6, d7, d8⟩ := rec9 kR
  have HKR := Lib.hid kR
  obtain ⟨⟨d0, d1, d2, d3, d4, d5⟩, -⟩ := rec9 kR
  have HB1 := Lib.hid hb1
  clear kR
  by_cases hC : canI size ep ti tr co li ln
  rotate_left
  · rw [show codeE size ep ti tr co li ln = 1 from by unfold codeE; rw [if_neg hC], show contE size ep ti tr co li ln = [] from by unfold contE; rw [if_neg hC]] at HE
    have HNO := Lib.hid (show ¬ sealOk size ep ti tr co li ln idx parts path from fun h => hC h.1)
    clear hC hb1
    go_enter Tryz.func5, Tryz.ntmps5
    go_wp2_with fail
    refine HE.out.mono ?_
    rintro e w2 ⟨x2, rfl, hx2, hb2⟩
    have hbr := below_trans2 HB1.out hb2
    go_wp2
    go_ret2
    rw [HDS.out.1, HDS.out.2, if_neg HNO.out, if_neg HNO.out]
    exact ⟨_, rfl, Sl.nil _, hbr⟩
  rw [show codeE size ep ti tr co li ln = 0 from by unfold codeE; rw [if_pos hC], show contE size ep ti tr co li ln = encI ep ti tr co li ln from by unfold contE; rw [if_pos hC]] at HE
  have HCC := Lib.hid hC
  clear hC hb1
  go_enter Tryz.func5, Tryz.ntmps5
  go_wp2_with fail
  generalize (w.alloc (.cells #[.int .i64 ep, .int .i64 ti, .slice ta tn tc, .int .i64 co, .slice la lc lcc, .slice ka ln.length kc, .int .i64 idx, .slice pa parts.length pc, .slice qa path.length qc] 29)) = w1 at *
  refine HE.out.mono ?_
  rintro e w2 ⟨x2, rfl, hx2, hb2⟩
  have hbr := below_trans2 HB1.out hb2
  have kR2 := HKR.out.belowS hb2
  obtain ⟨-, d6, d7, d8⟩ := rec9 kR2
  have HKR := Lib.hid kR2
  clear kR2 hb2 HE
  by_cases hW : wholeI size idx parts path
  rotate_left
  · have HWN := Lib.hid (HWA.out w2 hbr)
    rw [decide_eq_false hW] at HWN
    have HNO := Lib.hid (show ¬ sealOk size ep ti tr co li ln idx parts path from fun h => hW h.2)
    clear hW
    go_wp2_with fail
    refine HWN.out.mono ?_
    rintro e w3 ⟨rfl, hb3⟩
    have hbz := below_trans2 hbr hb3
    go_wp2
    go_ret2
    rw [HDS.out.1, HDS.out.2, if_neg HNO.out, if_neg HNO.out]
    exact ⟨_, rfl, Sl.nil _, hbz⟩
  have HWN := Lib.hid (HWA.out w2 hbr)
  rw [decide_eq_true hW] at HWN
  have HOK := Lib.hid (show sealOk size ep ti tr co li ln idx parts path from ⟨HCC.out, hW⟩)
  have hi0 := hW.1
  clear hW
  go_wp2_with fail
  refine HWN.out.mono ?_
  rintro e w3 ⟨rfl, hb3⟩
  have hbz := below_trans2 hbr hb3
  have HSG := Lib.hid (HGS.out w3 hbz)
  have hx3 := hx2.below hb3 (Nat.le_refl _)
  have kR3 := HKR.out.belowS hb3
  have HK := Lib.hid (fun w' (h : Below w3.heap.size w3 w') => (rec9 (kR3.belowS h)).2)
  have hG := Lib.hid (HK.out _ (Below.refl _ _))
  have HSL := Lib.hid (seal_len HOK.out)
  have HEL := Lib.hid (enc_short HOK.out.1)
  have HSI := Lib.hid (show sealI ep ti tr co li ln idx parts path = sigTo (bytesI (encI ep ti tr co li ln)) idx parts path 2 from rfl)
  generalize encI ep ti tr co li ln = en at *
  have HC1 := Lib.hid (fun w' (h : Below w3.heap.size w3 w') => rbytes_e0 x2 en w' (by have := HEL.out; omega) (hx3.below h (Nat.le_refl _)))
  have HC2 := Lib.hid (fun v w' (h : Below w3.heap.size w3 w') (hv : Sl w' v ((bytesI en).map (Value.int .u8))) => rswrite_any v (bytesI en) _ idx parts path w' hi0.1 (by have := hi0.2; omega) (by have h := HSL.out; rw [HSI.out] at h; omega) hv (HSG.out.below h (Nat.le_refl _)))
  have HBZ := Lib.hid hbz
  clear hx2 hx3 hi0 d0 d1 d2 d3 d4 d5 d6 d7 d8 kR3 hb3 hbz
  go_wp2
  go_region_held3 (fun w' => w'.cell? ⟨w.heap.size, 6, none⟩ = some (.int .i64 idx) ∧ w'.cell? ⟨w.heap.size, 7, none⟩ = some (.slice pa parts.length pc) ∧ w'.cell? ⟨w.heap.size, 8, none⟩ = some (.slice qa path.length qc)) (exact hG.out) (first | (go_at_call 21; refine (HC2.out v5 _ hb5 hs5).mono ?_; rintro e w6 ⟨v6, rfl, ho6, hb6⟩; have hs6 := Sl.of_owns ho6; have hb6 := below_trans2 hb5 hb6; have hG := Lib.hid (HK.out _ hb6)) | (go_at_call 22; refine (HC1.out _ (by first | exact Below.refl _ _ | exact (Below.refl _ _).drew)).mono ?_; rintro e w5 ⟨v5, rfl, hs5, hb5⟩; have hb5 : Below w3.heap.size w3 w5 := ⟨hb5.os, hb5.tape, hb5.output, hb5.size, hb5.block⟩; have hG := Lib.hid (HK.out _ hb5)))
  all_goals
    have hbz := below_trans2 HBZ.out hb6
    go_wp2
    go_ret2
    rw [HDS.out.1, HDS.out.2, if_pos HOK.out, if_pos HOK.out, HSI.out]
    exact ⟨_, rfl, hs6, hbz⟩

end Go.Proofs.YtjhannlioddkkaaGreatDoor

namespace Go.Proofs.YtjhannlioddkkaaGreatDoor
open Go.RowKit
set_option linter.unusedVariables false

theorem Sl.convS {w : World} {v : Value} {xs : List Int} (h : Sl w v (xs.map (Value.int .u8))) : ∀ n, (convert 22 9 v).run Tryz.prog (w.drewN n) = .ok (.string (strOfNums xs)) (w.drewN n) :=
  fun n => (h.below (below_drewN (Below.refl w.heap.size w) n) (Nat.le_refl _)).conv

set_option maxRecDepth 100000 in
set_option maxHeartbeats 2000000 in
theorem ssame_any (v1 v2 : Value) (idx : Int) (parts path : List (List Int)) (w : World) (h1 : SigV w v1 idx parts path) (h2 : SigV w v2 idx parts path) :
    Calls Tryz.prog 10 #[v1, v2] w fun e w' => e = .returned (.bool true) ∧ Below w.heap.size w w' := by
  obtain ⟨p1, q1, r1, s1, rfl⟩ := h1.val
  obtain ⟨p2, q2, r2, s2, rfl⟩ := h2.val
  obtain ⟨g1, g2⟩ := h1.parts
  obtain ⟨g3, g4⟩ := h2.parts
  have hb2 : Below w.heap.size w ((w.alloc (.cells #[.int .i64 idx, .slice p1 parts.length q1, .slice r1 path.length s1] 27)).alloc (.cells #[.int .i64 idx, .slice p2 parts.length q2, .slice r2 path.length s2] 27)) := ((Below.refl _ _).alloc (Nat.le_refl _) _).alloc (by simp) _
  have b1 : Blk ((w.alloc (.cells #[.int .i64 idx, .slice p1 parts.length q1, .slice r1 path.length s1] 27)).alloc (.cells #[.int .i64 idx, .slice p2 parts.length q2, .slice r2 path.length s2] 27)) w.heap.size 27 #[.int .i64 idx, .slice p1 parts.length q1, .slice r1 path.length s1] := (Blk.new w _ _).alloc _
  have b2 : Blk ((w.alloc (.cells #[.int .i64 idx, .slice p1 parts.length q1, .slice r1 path.length s1] 27)).alloc (.cells #[.int .i64 idx, .slice p2 parts.length q2, .slice r2 path.length s2] 27)) (w.heap.size + 1) 27 #[.int .i64 idx, .slice p2 parts.length q2, .slice r2 path.length s2] := by
    have := Blk.new (w.alloc (.cells #[.int .i64 idx, .slice p1 parts.length q1, .slice r1 path.length s1] 27)) 27 #[.int .i64 idx, .slice p2 parts.length q2, .slice r2 path.length s2]
    simpa using this
  have hpl : parts.length ≤ 9223372036854775807 := by obtain ⟨_, _, _, h3, h4⟩ := g1.shape; exact Nat.le_trans h3 h4
  have hql : path.length ≤ 9223372036854775807 := by obtain ⟨_, _, _, h3, h4⟩ := g2.shape; exact Nat.le_trans h3 h4
  have HG1 := Lib.hid (g1.below hb2 (Nat.le_refl _))
  have HG2 := Lib.hid (g2.below hb2 (Nat.le_refl _))
  have HG3 := Lib.hid (g3.below hb2 (Nat.le_refl _))
  have HG4 := Lib.hid (g4.below hb2 (Nat.le_refl _))
  have HB1 := Lib.hid b1
  have HB2 := Lib.hid b2
  have HBB := Lib.hid hb2
  clear h1 h2 g1 g2 g3 g4 b1 b2 hb2
  go_enter Tryz.func10, Tryz.ntmps10
  go_upto_region 1 with (fail)
  generalize ((w.alloc (.cells #[.int .i64 idx, .slice p1 parts.length q1, .slice r1 path.length s1] 27)).alloc (.cells #[.int .i64 idx, .slice p2 parts.length q2, .slice r2 path.length s2] 27)) = W at *
  obtain ⟨c0, c1, c2⟩ := rec3 HB1.out
  obtain ⟨e0, e1, e2⟩ := rec3 HB2.out
  have HST := Lib.hid (Below.refl W.heap.size W)
  go_wp2
  go_loopw [33] (fun i wr => ∃ k : Nat, k ≤ parts.length ∧ i = .int .i64 k ∧ Below W.heap.size W wr) (fun i _ => parts.length - (intOf i).toNat)
  case atStart => exact ⟨0, by omega, rfl, HST.out⟩
  case round =>
    clear c0 c1 c2 e0 e1 e2
    obtain ⟨k, hk, rfl, hbr⟩ := hrel
    by_cases hlt : k < parts.length
    · obtain ⟨b1, o1, rfl, hb1, u1, k1, t1⟩ := (HG1.out.below hbr (Nat.le_refl _)).at hlt
      obtain ⟨b2, o2, rfl, hb2, u2, k2, t2⟩ := (HG3.out.below hbr (Nat.le_refl _)).at hlt
      have hkI : (k : Int) < (parts.length : Int) := by omega
      have c9 := (rec3 (HB1.out.belowS hbr)).2.1
      have e9 := (rec3 (HB2.out.belowS hbr)).2.1
      have HBR := Lib.hid hbr
      generalize parts.getD k [] = P at *
      have cv1 := t1.convS
      have cv2 := t2.convS
      obtain ⟨xa, xn, xc, rfl⟩ := t1.val
      obtain ⟨ya, yn, yc, rfl⟩ := t2.val
      clear t1 t2 hbr
      go_wp2
      go_quiet (fail)
      have hbr := below_drewN HBR.out nq
      generalize wr.drewN nq = w2 at *
      go_wp2
      go_roundw
      case rel => exact ⟨k + 1, by omega, by go_num, hbr⟩
      case measure => simp [intOf]; omega
    · have hkI : ¬ (k : Int) < (parts.length : Int) := by omega
      generalize wr = wz at *
      obtain ⟨c0, c1, c2⟩ := rec3 (HB1.out.belowS hbr)
      obtain ⟨e0, e1, e2⟩ := rec3 (HB2.out.belowS hbr)
      have HST := Lib.hid hbr
      clear hbr hk hlt
      go_wp2
      go_loopw [53] (fun i wr => ∃ k : Nat, k ≤ path.length ∧ i = .int .i64 k ∧ Below W.heap.size W wr) (fun i _ => path.length - (intOf i).toNat)
      case atStart => exact ⟨0, by omega, rfl, HST.out⟩
      case round =>
        clear c0 c1 c2 e0 e1 e2
        obtain ⟨m, hk, rfl, hbr⟩ := hrel
        by_cases hlt : m < path.length
        · obtain ⟨b1, o1, rfl, hb1, u1, k1, t1⟩ := (HG2.out.below hbr (Nat.le_refl _)).at hlt
          obtain ⟨b2, o2, rfl, hb2, u2, k2, t2⟩ := (HG4.out.below hbr (Nat.le_refl _)).at hlt
          have hkI : (m : Int) < (path.length : Int) := by omega
          have c9 := (rec3 (HB1.out.belowS hbr)).2.2
          have e9 := (rec3 (HB2.out.belowS hbr)).2.2
          have HBR := Lib.hid hbr
          generalize path.getD m [] = P at *
          have cv1 := t1.convS
          have cv2 := t2.convS
          obtain ⟨xa, xn, xc, rfl⟩ := t1.val
          obtain ⟨ya, yn, yc, rfl⟩ := t2.val
          clear t1 t2 hbr
          go_wp2
          go_quiet (fail)
          have hbr := below_drewN HBR.out nq
          generalize wr.drewN nq = w2 at *
          go_wp2
          go_roundw
          case rel => exact ⟨m + 1, by omega, by go_num, hbr⟩
          case measure => simp [intOf]; omega
        · have hkI2 : ¬ (m : Int) < (path.length : Int) := by omega
          have hbb := below_trans2 HBB.out hbr
          clear hbr
          go_wp2
          go_ret
          exact ⟨rfl, hbb⟩

end Go.Proofs.YtjhannlioddkkaaGreatDoor
