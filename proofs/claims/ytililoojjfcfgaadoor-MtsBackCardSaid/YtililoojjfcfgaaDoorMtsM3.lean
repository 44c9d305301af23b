/- The walks of a search for a text of another length. Trees of signing keys: Verify, the program's. Trees of signing keys: Verify, the reference's: where the answer is no at once. Trees of signing keys: Verify, the reference's; the law of Verify. Trees of signing keys: the law of Verify. -/
import Derived.Test.YtililoojjfcfgaaDoorTextA
import Derived.Test.YtililoojjfcfgaaDoorBlk
import Derived.Test.YtililoojjfcfgaaDoorMtsM1
import Derived.Test.YtililoojjfcfgaaDoorSig1
import Derived.Deep.RegionHeld3
import Derived.Deep.Cut
import Derived.Test.YtililoojjfcfgaaDoorMtsM2
namespace Go.Proofs.YtililoojjfcfgaaDoor
open Go.RowKit
set_option linter.unusedVariables false

theorem mvOdd_any (v : Value) (bs : List Int) (cs : Nat) (size : Int) (w : World) (hz : Blk w cs 3 #[.int .i64 size]) (hs : Sl w v (bs.map (Value.int .u8))) :
    Calls Tryd.prog 92 #[v, .pointer (some ⟨cs, 0, none⟩)] w fun e w' => e = .returned (.bool (decide (¬ (bs.length : Int) = size))) ∧ w = w' := by
  obtain ⟨a, cap, rfl, hc, hm⟩ := hs.shape
  rw [List.length_map] at *
  have hz0 := hz.cell 0
  obtain ⟨bb, hbb⟩ : ∃ bb, bb = decide (¬ (bs.length : Int) = size) := ⟨_, rfl⟩
  rw [← hbb]
  have HB := Lib.hid hbb
  clear hbb
  go_enter Tryd.func92, Tryd.ntmps92
  go_wp2
  go_ret
  exact ⟨ret_bool (by rw [HB.out]; by_cases h : (bs.length : Int) = size <;> simp [h]), rfl⟩

set_option maxHeartbeats 1000000 in
theorem mvIndex_any (v : Value) (pss : List (List Int)) (cs : Nat) (size : Int) (w : World) (hz : Blk w cs 3 #[.int .i64 size]) (h : Sls w v pss) :
    Calls Tryd.prog 132 #[v, .func (.func 92) #[] #[.pointer (some ⟨cs, 0, none⟩)]] w fun e w' => ∃ r : Int, e = .returned (.int .i64 r) ∧ (0 ≤ r ↔ ∃ p ∈ pss, ¬ (p.length : Int) = size) ∧ w = w' := by
  obtain ⟨a, cap, rfl, hc, hm⟩ := h.shape
  go_enter Tryd.func132, Tryd.ntmps132
  go_wp2
  go_loopw [8] (fun i wr => ∃ k : Nat, k ≤ pss.length ∧ i = .int .i64 k ∧ Hid (∀ j, j < k → ¬ ¬ ((pss.getD j []).length : Int) = size) ∧ w = wr) (fun i _ => pss.length - (intOf i).toNat)
  case atStart => exact ⟨0, by omega, rfl, fun j hj => absurd hj (by omega), rfl⟩
  case round =>
    obtain ⟨k, hk, rfl, hall, rfl⟩ := hrel
    by_cases hlt : k < pss.length
    · obtain ⟨b, off, rfl, hb, u, hu, hs⟩ := h.at hlt
      have hkI : (k : Int) < (pss.length : Int) := by omega
      go_wp2_with fail
      refine (mvOdd_any u _ cs size w hz hs).mono ?_
      by_cases hl : ¬ ((pss.getD k []).length : Int) = size
      · rw [show decide (¬ ((pss.getD k []).length : Int) = size) = true by simpa using hl]
        rintro e w1 ⟨rfl, rfl⟩
        have HL := Lib.hid hl
        clear hl hs hu
        go_wp2
        go_ret
        refine ⟨_, rfl, ⟨fun _ => ⟨pss[k], List.getElem_mem hlt, ?_⟩, fun _ => by omega⟩, rfl⟩
        have := HL.out
        rwa [List.getD_eq_getElem?_getD, List.getElem?_eq_getElem hlt] at this
      · rw [show decide (¬ ((pss.getD k []).length : Int) = size) = false by simpa using hl]
        rintro e w1 ⟨rfl, rfl⟩
        have HL := Lib.hid hl
        clear hl hs hu
        go_wp2
        go_roundw
        case rel =>
          refine ⟨k + 1, by omega, by go_num, fun j hj => ?_, by first | rfl | trivial⟩
          rcases Nat.lt_or_ge j k with h | h
          · exact hall.out j h
          · obtain rfl : j = k := by omega
            exact HL.out
        case measure => simp [intOf]; omega
    · have hkI : ¬ (k : Int) < (pss.length : Int) := by omega
      go_wp2
      go_ret
      refine ⟨_, rfl, ⟨fun h0 => absurd h0 (by decide), fun ⟨p, hp, hl⟩ => ?_⟩, rfl⟩
      obtain ⟨j, hj, rfl⟩ := List.mem_iff_getElem.1 hp
      have := hall.out j (by omega)
      rw [List.getD_eq_getElem?_getD, List.getElem?_eq_getElem hj] at this
      exact absurd hl this

theorem mvContains_any (v : Value) (pss : List (List Int)) (cs : Nat) (size : Int) (w : World) (hz : Blk w cs 3 #[.int .i64 size]) (h : Sls w v pss) :
    Calls Tryd.prog 93 #[v, .func (.func 92) #[] #[.pointer (some ⟨cs, 0, none⟩)]] w fun e w' => e = .returned (.bool (decide (∃ p ∈ pss, ¬ (p.length : Int) = size))) ∧ w = w' := by
  have hi := Lib.hid (mvIndex_any v pss cs size w hz h)
  go_enter Tryd.func93, Tryd.ntmps93
  go_wp2_with fail
  refine hi.out.mono ?_
  rintro e w1 ⟨r, rfl, hr, rfl⟩
  have HR := Lib.hid hr
  clear hr
  go_wp2
  go_ret
  exact ⟨ret_bool (by rw [decide_eq_decide]; exact HR.out), rfl⟩


end Go.Proofs.YtililoojjfcfgaaDoor

namespace Go.Proofs.YtililoojjfcfgaaDoor
open Go.RowKit
set_option linter.unusedVariables false

/-- The hash of the k-th level on a way up. -/
def climbI (size : Int) (idx : Nat) (x : List Int) (path : List (List Int)) : Nat → List Int
  | 0 => x
  | k + 1 => if idx / 2 ^ k % 2 = 1 then pairT size ((k : Int) + 1) ((idx / 2 ^ k / 2 : Nat) : Int) (path.getD k []) (climbI size idx x path k) else pairT size ((k : Int) + 1) ((idx / 2 ^ k / 2 : Nat) : Int) (climbI size idx x path k) (path.getD k [])
theorem climbI_isB (size : Int) (idx : Nat) (x : List Int) (path : List (List Int)) (h : IsB x) : ∀ k, IsB (climbI size idx x path k)
  | 0 => h
  | k + 1 => by
    rw [climbI]; split
    · exact pairT_isB _ _ _ _ _
    · exact pairT_isB _ _ _ _ _
def verOk (size h idx : Int) (l path : List (List Int)) (m : Nat) : Prop :=
  mcanB size h = true ∧ 0 ≤ idx ∧ idx < 2 ^ h.toNat ∧ (path.length : Int) = h ∧ (¬ ∃ p ∈ path, ¬ (p.length : Int) = size) ∧ recE size l idx m = 0
instance (size h idx : Int) (l path : List (List Int)) (m : Nat) : Decidable (verOk size h idx l path m) := by unfold verOk; infer_instance
def verB (size : Int) (pub : List Int) (h : Int) (dg : List Int) (idx : Int) (l path : List (List Int)) : Bool :=
  if verOk size h idx l path dg.length then decide (climbI size idx.toNat (recL size l idx dg) path path.length = pub) else false
theorem recE_or (size : Int) (l : List (List Int)) (idx : Int) (m : Nat) : recE size l idx m = 0 ∨ recE size l idx m = 1 := by unfold recE; split <;> simp

theorem and_one (P : Nat) (h : P < 9223372036854775808) : bits BinOp.and IntKind.i64 (P : Int) 1 = ((P % 2 : Nat) : Int) := by
  have hx : P &&& 1 = P % 2 := Nat.and_one_is_mod P
  have h1 : (BitVec.ofInt 64 (P : Int)).toNat = P := by
    rw [BitVec.ofInt_natCast, BitVec.toNat_ofNat]; exact Nat.mod_eq_of_lt (by omega)
  have h2 : (BitVec.ofInt 64 1).toNat = 1 := by decide
  show IntKind.i64.wrap ((BitVec.ofInt 64 (P : Int) &&& BitVec.ofInt 64 1).toNat : Int) = _
  rw [BitVec.toNat_and, h1, h2, hx, IntKind.wrap_i64]
  omega

set_option maxRecDepth 100000 in
set_option maxHeartbeats 8000000 in
theorem verify_any (size : Int) (vp : Value) (pub : List Int) (h : Int) (vd : Value) (dg : List Int) (sv : Value) (idx : Int) (l path : List (List Int)) (w : World) (hz0 : -9223372036854775808 ≤ size) (hz1 : size ≤ 9223372036854775807) (hx0 : -9223372036854775808 ≤ idx) (hx1 : idx ≤ 9223372036854775807)
    (hBp : IsB pub) (hp : Sl w vp (pub.map (Value.int .u8))) (hBd : IsB dg) (hd : Sl w vd (dg.map (Value.int .u8))) (hBl : ∀ p ∈ l, IsB p) (hBq : ∀ p ∈ path, IsB p) (hg : SigV w sv idx l path) (ht : Tabs w) :
    Calls Tryd.prog 49 #[.int .i64 size, vp, .int .i64 h, vd, sv] w fun e w' => e = .returned (.bool (verB size pub h dg idx l path)) ∧ Below w.heap.size w w' := by
  obtain ⟨pa, pc, qa, qc, rfl⟩ := hg.val
  obtain ⟨g1, g2⟩ := hg.parts
  obtain ⟨pva, pvn, pvc, rfl⟩ := hp.val
  obtain ⟨dva, dvn, dvc, rfl⟩ := hd.val
  have hb1 : Below w.heap.size w (w.alloc (.cells #[.int .i64 size] 3)) := (Below.refl _ _).alloc (Nat.le_refl _) _
  have hb2 : Below w.heap.size w ((w.alloc (.cells #[.int .i64 size] 3)).alloc (.cells #[.int .i64 idx, .slice pa l.length pc, .slice qa path.length qc] 61)) := hb1.alloc hb1.size _
  have k1 : Blk ((w.alloc (.cells #[.int .i64 size] 3)).alloc (.cells #[.int .i64 idx, .slice pa l.length pc, .slice qa path.length qc] 61)) w.heap.size 3 #[.int .i64 size] := (Blk.new w _ _).alloc _
  have k2 : Blk ((w.alloc (.cells #[.int .i64 size] 3)).alloc (.cells #[.int .i64 idx, .slice pa l.length pc, .slice qa path.length qc] 61)) (w.heap.size + 1) 61 #[.int .i64 idx, .slice pa l.length pc, .slice qa path.length qc] := by
    have := Blk.new (w.alloc (.cells #[.int .i64 size] 3)) 61 #[.int .i64 idx, .slice pa l.length pc, .slice qa path.length qc]
    simpa using this
  have hmf : ∀ (fn : Fn) (first cap : Array Value) (w : World), (Instr.makeFunc fn first cap).run Tryd.prog w = .ok (.func fn first cap) w := fun _ _ _ _ => rfl
  have HP := Lib.hid (hp.below hb2 (Nat.le_refl _))
  have HD := Lib.hid (hd.below hb2 (Nat.le_refl _))
  have HG1 := Lib.hid (g1.below hb2 (Nat.le_refl _))
  have HG2 := Lib.hid (g2.below hb2 (Nat.le_refl _))
  have HT := Lib.hid (ht.below hb2)
  have HV := Lib.hid (show verB size pub h dg idx l path = if verOk size h idx l path dg.length then decide (climbI size idx.toNat (recL size l idx dg) path path.length = pub) else false from rfl)
  generalize verB size pub h dg idx l path = V at *
  have HOK : Hid (verOk size h idx l path dg.length ↔ (mcanB size h = true ∧ 0 ≤ idx ∧ idx < 2 ^ h.toNat ∧ (path.length : Int) = h ∧ (¬ ∃ p ∈ path, ¬ (p.length : Int) = size) ∧ recE size l idx dg.length = 0)) := ⟨fun h => h, fun h => h⟩
  clear hp hd hg g1 g2 ht
  go_enter Tryd.func49, Tryd.ntmps49
  go_wp2_with fail
  generalize ((w.alloc (.cells #[.int .i64 size] 3)).alloc (.cells #[.int .i64 idx, .slice pa l.length pc, .slice qa path.length qc] 61)) = w2 at *
  have HM := Lib.hid (mcan_any size h w2)
  have q1 : w2.cell? ⟨w.heap.size, 0, none⟩ = some (.int .i64 size) := k1.cell 0
  obtain ⟨z0, z1, z2⟩ := rec3 k2
  by_cases hc1 : mcanB size h = true
  rotate_left
  · rw [Bool.not_eq_true] at hc1
    rw [hc1] at HM
    have HNO := Lib.hid (show ¬ verOk size h idx l path dg.length from fun q => by rw [(HOK.out.1 q).1] at hc1; cases hc1)
    refine HM.out.mono ?_
    rintro e w3 ⟨rfl, rfl⟩
    go_wp2
    go_ret
    exact ⟨ret_bool (by rw [HV.out, if_neg HNO.out]), hb2⟩
  rw [hc1] at HM
  obtain ⟨hs0, hs1, hh0, hh1⟩ : 1 ≤ size ∧ size ≤ 32 ∧ 0 ≤ h ∧ h ≤ 8 := by unfold mcanB at hc1; exact of_decide_eq_true hc1
  obtain ⟨hn, rfl⟩ : ∃ hn : Nat, h = hn := ⟨h.toNat, by omega⟩
  rw [Int.toNat_natCast] at HOK
  have HC1 := Lib.hid hc1
  clear hc1
  by_cases hc2 : 0 ≤ idx
  rotate_left
  · have hx : idx < 0 := by omega
    have HNO := Lib.hid (show ¬ verOk size hn idx l path dg.length from fun q => hc2 (HOK.out.1 q).2.1)
    refine HM.out.mono ?_
    rintro e w3 ⟨rfl, rfl⟩
    go_wp2
    go_ret
    exact ⟨ret_bool (by rw [HV.out, if_neg HNO.out]), hb2⟩
  obtain ⟨ix, rfl⟩ : ∃ ix : Nat, idx = ix := ⟨idx.toNat, by omega⟩
  rw [Int.toNat_natCast] at HV
  have hpos : (0 : Int) < 2 ^ hn := Int.pow_pos (by decide)
  by_cases hc3 : (ix : Int) < 2 ^ hn
  rotate_left
  · have hx : 0 < (ix : Int) / 2 ^ hn := by
      have : 1 ≤ (ix : Int) / 2 ^ hn := (Int.le_ediv_iff_mul_le hpos).2 (by omega)
      omega
    have HNO := Lib.hid (show ¬ verOk size hn ix l path dg.length from fun q => hc3 (HOK.out.1 q).2.2.1)
    refine HM.out.mono ?_
    rintro e w3 ⟨rfl, rfl⟩
    go_wp2
    go_ret
    exact ⟨ret_bool (by rw [HV.out, if_neg HNO.out]), hb2⟩
  have hx : (ix : Int) / 2 ^ hn ≤ 0 := by rw [Int.ediv_eq_zero_of_lt (by omega) hc3]; omega
  have HC3 := Lib.hid hc3
  clear hc3 hpos
  by_cases hc4 : (path.length : Int) = hn
  rotate_left
  · have hx4 : ((path.length : Int) != (hn : Int)) = true := by simpa using hc4
    have HNO := Lib.hid (show ¬ verOk size hn ix l path dg.length from fun q => hc4 (HOK.out.1 q).2.2.2.1)
    refine HM.out.mono ?_
    rintro e w3 ⟨rfl, rfl⟩
    go_wp2
    go_ret
    exact ⟨ret_bool (by rw [HV.out, if_neg HNO.out]), hb2⟩
  have hx4 : ((path.length : Int) != (hn : Int)) = false := by simpa using hc4
  have HPL := Lib.hid (show path.length ≤ 8 by omega)
  obtain rfl : hn = path.length := by omega
  have HX := Lib.hid (mvContains_any (.slice qa path.length qc) path w.heap.size size w2 k1 HG2.out)
  by_cases hc5 : ∃ p ∈ path, ¬ (p.length : Int) = size
  · rw [decide_eq_true hc5] at HX
    have HNO := Lib.hid (show ¬ verOk size path.length ix l path dg.length from fun q => (HOK.out.1 q).2.2.2.2.1 hc5)
    refine HM.out.mono ?_
    rintro e w3 ⟨rfl, rfl⟩
    go_wp2_with fail
    refine HX.out.mono ?_
    rintro e w4 ⟨rfl, rfl⟩
    go_wp2
    go_ret
    exact ⟨ret_bool (by rw [HV.out, if_neg HNO.out]), hb2⟩
  rw [decide_eq_false hc5] at HX
  have HC5 := Lib.hid hc5
  clear hc5 hc4
  have HR := Lib.hid (recover_any size (.slice pa l.length pc) l ix (.slice dva dvn dvc) dg w2 hz0 hz1 hx0 hx1 hBl HG1.out hBd HD.out HT.out)
  refine HM.out.mono ?_
  rintro e w3 ⟨rfl, rfl⟩
  go_wp2_with fail
  refine HX.out.mono ?_
  rintro e w4 ⟨rfl, rfl⟩
  go_wp2_with fail
  refine HR.out.mono ?_
  rintro e w5 ⟨x5, rfl, hx5, hb5⟩
  have k1 := k1.belowS hb5
  have k2 := k2.belowS hb5
  have q1 : w5.cell? ⟨w.heap.size, 0, none⟩ = some (.int .i64 size) := k1.cell 0
  obtain ⟨z0, z1, z2⟩ := rec3 k2
  have hbr := hb2.trans (hb5.mono hb2.size)
  have HP5 := Lib.hid (HP.out.below hb5 (Nat.le_refl _))
  have HG5 := Lib.hid (HG2.out.below hb5 (Nat.le_refl _))
  have HT5 := Lib.hid (HT.out.below hb5)
  have HXB := Lib.hid (recL_isB size l ix dg)
  rcases recE_or size l ix dg.length with hc6 | hc6
  rotate_left
  · rw [hc6]
    have HNO := Lib.hid (show ¬ verOk size path.length ix l path dg.length from fun q => by rw [(HOK.out.1 q).2.2.2.2.2] at hc6; cases hc6)
    clear hx5 HR HX
    go_wp2
    go_ret
    exact ⟨ret_bool (by rw [HV.out, if_neg HNO.out]), hbr⟩
  · have HYES := Lib.hid (show verOk size path.length ix l path dg.length from HOK.out.2 ⟨HC1.out, by omega, HC3.out, by first | rfl | trivial, HC5.out, hc6⟩)
    rw [hc6]
    have HVY := Lib.hid (show V = decide (climbI size ix (recL size l ix dg) path path.length = pub) by rw [HV.out, if_pos HYES.out])
    clear HV
    have HCS := Lib.hid (fun k => show climbI size ix (recL size l ix dg) path (k + 1) = (if ix / 2 ^ k % 2 = 1 then pairT size ((k : Int) + 1) ((ix / 2 ^ k / 2 : Nat) : Int) (path.getD k []) (climbI size ix (recL size l ix dg) path k) else pairT size ((k : Int) + 1) ((ix / 2 ^ k / 2 : Nat) : Int) (climbI size ix (recL size l ix dg) path k) (path.getD k [])) from rfl)
    have HC0 := Lib.hid (show climbI size ix (recL size l ix dg) path 0 = recL size l ix dg from rfl)
    have HCB := Lib.hid (climbI_isB size ix (recL size l ix dg) path HXB.out)
    rw [← HC0.out] at hx5
    generalize climbI size ix (recL size l ix dg) path = CL at *
    clear HR HX hx hx4 hc6 HOK HC1 HC3 HXB HM HC0
    go_wp2
    go_loopw [12, 14, 66] (fun x pl i wr => ∃ (k : Nat) (xv : Value), xv = x ∧ k ≤ path.length ∧ pl = .int .i64 ((ix / 2 ^ k : Nat) : Int) ∧ i = .int .i64 k ∧ Sl wr xv ((CL k).map (Value.int .u8)) ∧ Below w5.heap.size w5 wr) (fun _ _ i _ => path.length - (intOf i).toNat)
    case atStart => exact ⟨0, _, rfl, by omega, by simp, rfl, hx5, Below.refl _ _⟩
    case round =>
      obtain ⟨k, xv, rfl, hk, rfl, rfl, hxv, hbw⟩ := hrel
      obtain ⟨xa, xn, xc, rfl⟩ := hxv.val
      have k1 := k1.belowS hbw
      have q1 : wr.cell? ⟨w.heap.size, 0, none⟩ = some (.int .i64 size) := k1.cell 0
      by_cases hlt : k < path.length
      · have hkI : (k : Int) < (path.length : Int) := by omega
        obtain ⟨yb, yo, rfl, hyb, yu, hyc, hyu⟩ := (HG5.out.below hbw (Nat.le_refl _)).at hlt
        have HIN := Lib.hid (show IsB (path.getD k []) from hBq _ (getD_mem hlt))
        have HST := Lib.hid (HCS.out k)
        generalize path.getD k [] = Y at *
        obtain ⟨ya, yn, yc, rfl⟩ := hyu.val
        generalize hP : ix / 2 ^ k = P at *
        have HPN := Lib.hid (show ix / 2 ^ (k + 1) = P / 2 by rw [← hP, Nat.pow_succ, Nat.div_div_eq_div_mul])
        have hPb : (P : Int) ≤ ix := by have := Nat.div_le_self ix (2 ^ k); omega
        have hqd : ((P : Int)).tdiv 2 = ((P / 2 : Nat) : Int) := by rw [Int.tdiv_eq_ediv_of_nonneg (by omega)]; omega
        have hkn := HPL.out
        clear hP
        by_cases hodd : P % 2 = 1
        · have hbit : (bits BinOp.and IntKind.i64 (P : Int) 1 == 1) = true := by rw [and_one P (by omega), hodd]; rfl
          rw [if_pos hodd] at HST
          clear hodd
          go_wp2_with fail
          refine (mpair_any size ((k : Int) + 1) ((P / 2 : Nat) : Int) (.slice ya yn yc) (.slice xa xn xc) Y (CL k) wr (by omega) (by omega) (by omega) (by omega) HIN.out (HCB.out k) hyu hxv (HT5.out.below hbw)).mono ?_
          rintro e w6 ⟨x6, rfl, hx6, hb6⟩
          go_wp2
          go_roundw
          case rel => exact ⟨k + 1, x6, rfl, by omega, by rw [HPN.out]; congr 1, by go_num, by rw [HST.out]; exact hx6, hbw.trans (hb6.mono hbw.size)⟩
          case measure => simp [intOf]; omega
        · have hbit : (bits BinOp.and IntKind.i64 (P : Int) 1 == 1) = false := by rw [and_one P (by omega), show P % 2 = 0 by omega]; rfl
          rw [if_neg hodd] at HST
          clear hodd
          go_wp2_with fail
          refine (mpair_any size ((k : Int) + 1) ((P / 2 : Nat) : Int) (.slice xa xn xc) (.slice ya yn yc) (CL k) Y wr (by omega) (by omega) (by omega) (by omega) (HCB.out k) HIN.out hxv hyu (HT5.out.below hbw)).mono ?_
          rintro e w6 ⟨x6, rfl, hx6, hb6⟩
          go_wp2
          go_roundw
          case rel => exact ⟨k + 1, x6, rfl, by omega, by rw [HPN.out]; congr 1, by go_num, by rw [HST.out]; exact hx6, hbw.trans (hb6.mono hbw.size)⟩
          case measure => simp [intOf]; omega
      · obtain rfl : k = path.length := by omega
        have hkI : ¬ (path.length : Int) < (path.length : Int) := by omega
        have HE := Lib.hid (bytesEq_any (.slice xa xn xc) (.slice pva pvn pvc) (CL path.length) pub wr hxv (HP5.out.below hbw (Nat.le_refl _)) (HCB.out _) hBp)
        go_wp2_with fail
        refine HE.out.mono ?_
        rintro e w8 ⟨rfl, rfl⟩
        go_wp2
        go_ret
        exact ⟨ret_bool (by rw [HVY.out]), hbr.trans (hbw.mono hbr.size)⟩

end Go.Proofs.YtililoojjfcfgaaDoor

namespace Go.Proofs.YtililoojjfcfgaaDoor
open Go.RowKit
set_option linter.unusedVariables false

set_option maxRecDepth 100000 in
set_option maxHeartbeats 8000000 in
theorem refVerify_stop (size : Int) (vp : Value) (pub : List Int) (h : Int) (vd : Value) (dg : List Int) (sv : Value) (idx : Int) (l path : List (List Int)) (w : World) (hz0 : -9223372036854775808 ≤ size) (hz1 : size ≤ 9223372036854775807) (hx0 : -9223372036854775808 ≤ idx) (hx1 : idx ≤ 9223372036854775807)
    (hBp : IsB pub) (hp : Sl w vp (pub.map (Value.int .u8))) (hBd : IsB dg) (hd : Sl w vd (dg.map (Value.int .u8))) (hBl : ∀ p ∈ l, IsB p) (hBq : ∀ p ∈ path, IsB p) (hg : SigV w sv idx l path) (hno : ¬ (0 ≤ h ∧ h ≤ 8 ∧ 0 ≤ idx ∧ idx < 2 ^ h.toNat ∧ (path.length : Int) = h)) :
    Calls Tryd.prog 50 #[.int .i64 size, vp, .int .i64 h, vd, sv] w fun e w' => e = .returned (.bool (verB size pub h dg idx l path)) ∧ Below w.heap.size w w' := by
  obtain ⟨pa, pc, qa, qc, rfl⟩ := hg.val
  obtain ⟨g1, g2⟩ := hg.parts
  obtain ⟨pva, pvn, pvc, rfl⟩ := hp.val
  obtain ⟨dva, dvn, dvc, rfl⟩ := hd.val
  have hb2 : Below w.heap.size w (w.alloc (.cells #[.int .i64 idx, .slice pa l.length pc, .slice qa path.length qc] 61)) := (Below.refl _ _).alloc (Nat.le_refl _) _
  have k2 := Blk.new w 61 #[.int .i64 idx, .slice pa l.length pc, .slice qa path.length qc]
  have HP := Lib.hid (hp.below hb2 (Nat.le_refl _))
  have HD := Lib.hid (hd.below hb2 (Nat.le_refl _))
  have HG1 := Lib.hid (g1.below hb2 (Nat.le_refl _))
  have HG2 := Lib.hid (g2.below hb2 (Nat.le_refl _))
  have HV := Lib.hid (show verB size pub h dg idx l path = if verOk size h idx l path dg.length then decide (climbI size idx.toNat (recL size l idx dg) path path.length = pub) else false from rfl)
  generalize verB size pub h dg idx l path = V at *
  have HOK : Hid (verOk size h idx l path dg.length ↔ (mcanB size h = true ∧ 0 ≤ idx ∧ idx < 2 ^ h.toNat ∧ (path.length : Int) = h ∧ (¬ ∃ p ∈ path, ¬ (p.length : Int) = size) ∧ recE size l idx dg.length = 0)) := ⟨fun h => h, fun h => h⟩
  clear hp hd hg g1 g2
  go_enter Tryd.func50, Tryd.ntmps50
  go_upto_region 1 with (fail)
  generalize (w.alloc (.cells #[.int .i64 idx, .slice pa l.length pc, .slice qa path.length qc] 61)) = w2 at *
  obtain ⟨z0, z1, z2⟩ := rec3 k2
  by_cases hc1 : 0 ≤ h
  rotate_left
  · have hx1 : h < 0 := by omega
    have HNO := Lib.hid (show ¬ verOk size h idx l path dg.length from fun q => by have := (HOK.out.1 q).1; unfold mcanB at this; have := of_decide_eq_true this; omega)
    go_wp2
    go_quiet (fail)
    go_wp2
    go_ret
    exact ⟨ret_bool (by rw [HV.out, if_neg HNO.out]), below_drewN0 hb2 _⟩
  by_cases hc2 : h ≤ 8
  rotate_left
  · have hx1 : 8 < h := by omega
    have HNO := Lib.hid (show ¬ verOk size h idx l path dg.length from fun q => by have := (HOK.out.1 q).1; unfold mcanB at this; have := of_decide_eq_true this; omega)
    go_wp2
    go_quiet (fail)
    go_wp2
    go_ret
    exact ⟨ret_bool (by rw [HV.out, if_neg HNO.out]), below_drewN0 hb2 _⟩
  by_cases hc3 : 0 ≤ idx
  rotate_left
  · have hx3 : idx < 0 := by omega
    have HNO := Lib.hid (show ¬ verOk size h idx l path dg.length from fun q => hc3 (HOK.out.1 q).2.1)
    go_wp2
    go_quiet (fail)
    go_wp2
    go_ret
    exact ⟨ret_bool (by rw [HV.out, if_neg HNO.out]), below_drewN0 hb2 _⟩
  obtain ⟨hn, rfl⟩ : ∃ hn : Nat, h = hn := ⟨h.toNat, by omega⟩
  rw [Int.toNat_natCast] at HOK
  obtain ⟨ix, rfl⟩ : ∃ ix : Nat, idx = ix := ⟨idx.toNat, by omega⟩
  rw [Int.toNat_natCast] at HV
  obtain ⟨H, hH⟩ : ∃ H : Nat, H = 2 ^ hn := ⟨_, rfl⟩
  have hH1 : 1 ≤ H ∧ H ≤ 256 := by rw [hH]; exact ⟨Nat.one_le_two_pow, Nat.pow_le_pow_right (by omega) (show hn ≤ 8 by omega)⟩
  have hWH : ((2 : Int) ^ hn) = (H : Int) := by rw [hH]; simp
  have hW : wrap64 ((2 : Int) ^ hn) = (H : Int) := by rw [hWH]; unfold wrap64; omega
  have hW2 : IntKind.i64.wrap ((2 : Int) ^ hn) = (H : Int) := by rw [hWH, IntKind.wrap_i64]; omega
  have HWH := Lib.hid hWH
  clear hH hWH
  have hc3' : ¬ (ix : Int) < 0 := by omega
  by_cases hc4 : ix < H
  rotate_left
  · have hx4 : (H : Int) ≤ (ix : Int) := by omega
    have HNO := Lib.hid (show ¬ verOk size hn ix l path dg.length from fun q => by have := (HOK.out.1 q).2.2.1; rw [HWH.out] at this; omega)
    go_wp2
    go_quiet (fail)
    go_wp2
    go_ret
    exact ⟨ret_bool (by rw [HV.out, if_neg HNO.out]), below_drewN0 hb2 _⟩
  have hx4 : ¬ (H : Int) ≤ (ix : Int) := by omega
  by_cases hc5 : (path.length : Int) = hn
  rotate_left
  · have hx5 : ((path.length : Int) != (hn : Int)) = true := by simpa using hc5
    have HNO := Lib.hid (show ¬ verOk size hn ix l path dg.length from fun q => hc5 (HOK.out.1 q).2.2.2.1)
    go_wp2
    go_quiet (fail)
    go_wp2
    go_ret
    exact ⟨ret_bool (by rw [HV.out, if_neg HNO.out]), below_drewN0 hb2 _⟩
  exact absurd ⟨by omega, by omega, by omega, by rw [Int.toNat_natCast, HWH.out]; omega, hc5⟩ hno

end Go.Proofs.YtililoojjfcfgaaDoor

namespace Go.Proofs.YtililoojjfcfgaaDoor
open Go.RowKit
set_option linter.unusedVariables false

theorem odd_bit {P : Nat} (h : P % 2 = 1) : ((P : Int) % 2 == 0) = false := by
  rw [beq_eq_false_iff_ne]; omega
theorem even_bit {P : Nat} (h : P % 2 = 0) : ((P : Int) % 2 == 0) = true := by
  rw [beq_iff_eq]; omega
theorem recL_len (size : Int) (l : List (List Int)) (idx : Int) (dg : List Int) : (recL size l idx dg).length ≤ 32 := by
  unfold recL; split
  · exact hashT_len _ _ _
  · simp
theorem climbI_len (size : Int) (idx : Nat) (x : List Int) (path : List (List Int)) (h : x.length ≤ 32) : ∀ k, (climbI size idx x path k).length ≤ 32
  | 0 => h
  | k + 1 => by
    rw [climbI]; split
    · exact pairT_len _ _ _ _ _
    · exact pairT_len _ _ _ _ _

set_option maxRecDepth 100000 in
set_option maxHeartbeats 8000000 in
theorem refVerify_main (size : Int) (vp : Value) (pub : List Int) (vd : Value) (dg : List Int) (sv : Value) (ix H : Nat) (l path : List (List Int)) (w : World) (hz0 : -9223372036854775808 ≤ size) (hz1 : size ≤ 9223372036854775807) (hx0 : -9223372036854775808 ≤ (ix : Int)) (hx1 : (ix : Int) ≤ 9223372036854775807)
    (hBp : IsB pub) (hp : Sl w vp (pub.map (Value.int .u8))) (hBd : IsB dg) (hd : Sl w vd (dg.map (Value.int .u8))) (hBl : ∀ p ∈ l, IsB p) (hBq : ∀ p ∈ path, IsB p) (hg : SigV w sv ix l path) (hc2 : path.length ≤ 8) (hc4 : ix < H) (hH1 : 1 ≤ H ∧ H ≤ 256) (hWH : ((2 : Int) ^ path.length) = (H : Int)) :
    Calls Tryd.prog 50 #[.int .i64 size, vp, .int .i64 path.length, vd, sv] w fun e w' => e = .returned (.bool (verB size pub path.length dg ix l path)) ∧ Below w.heap.size w w' := by
  obtain ⟨pa, pc, qa, qc, rfl⟩ := hg.val
  obtain ⟨g1, g2⟩ := hg.parts
  obtain ⟨pva, pvn, pvc, rfl⟩ := hp.val
  obtain ⟨dva, dvn, dvc, rfl⟩ := hd.val
  have hb2 : Below w.heap.size w (w.alloc (.cells #[.int .i64 ix, .slice pa l.length pc, .slice qa path.length qc] 61)) := (Below.refl _ _).alloc (Nat.le_refl _) _
  have k2 := Blk.new w 61 #[.int .i64 ix, .slice pa l.length pc, .slice qa path.length qc]
  have HP := Lib.hid (hp.below hb2 (Nat.le_refl _))
  have HD := Lib.hid (hd.below hb2 (Nat.le_refl _))
  have HG1 := Lib.hid (g1.below hb2 (Nat.le_refl _))
  have HG2 := Lib.hid (g2.below hb2 (Nat.le_refl _))
  have HV := Lib.hid (show verB size pub path.length dg ix l path = if verOk size path.length ix l path dg.length then decide (climbI size ix (recL size l ix dg) path path.length = pub) else false from rfl)
  generalize verB size pub path.length dg ix l path = V at *
  have HOK : Hid (verOk size path.length ix l path dg.length ↔ (mcanB size path.length = true ∧ 0 ≤ (ix : Int) ∧ (ix : Int) < 2 ^ path.length ∧ (path.length : Int) = path.length ∧ (¬ ∃ p ∈ path, ¬ (p.length : Int) = size) ∧ recE size l ix dg.length = 0)) := ⟨fun h => h, fun h => h⟩
  clear hp hd hg g1 g2
  go_enter Tryd.func50, Tryd.ntmps50
  go_upto_region 1 with (fail)
  generalize (w.alloc (.cells #[.int .i64 ix, .slice pa l.length pc, .slice qa path.length qc] 61)) = w2 at *
  obtain ⟨z0, z1, z2⟩ := rec3 k2
  have hW : wrap64 ((2 : Int) ^ path.length) = (H : Int) := by rw [hWH]; unfold wrap64; omega
  have hW2 : IntKind.i64.wrap ((2 : Int) ^ path.length) = (H : Int) := by rw [hWH, IntKind.wrap_i64]; omega
  have HWH := Lib.hid hWH
  clear hWH
  have hc1 : (0 : Int) ≤ (path.length : Int) := by omega
  have hc2 : (path.length : Int) ≤ 8 := by omega
  have hc3 : (0 : Int) ≤ (ix : Int) := by omega
  have hc3' : ¬ (ix : Int) < 0 := by omega
  have hx4 : ¬ (H : Int) ≤ (ix : Int) := by omega
  have hx5 : ((path.length : Int) != (path.length : Int)) = false := by simp
  have HX4 := Lib.hid (show (ix : Int) < 2 ^ path.length by rw [HWH.out]; omega)
  have HMC := Lib.hid (fun (q : 1 ≤ size ∧ size ≤ 32) => show mcanB size path.length = true from by unfold mcanB; exact decide_eq_true ⟨q.1, q.2, hc1, hc2⟩)
  have hpl8 : path.length ≤ 8 := by omega
  go_wp2
  go_quiet (fail)
  have hbq := below_drewN0 (Below.refl w2.heap.size w2) nq
  have HR := Lib.hid (refRecover_any size (.slice pa l.length pc) l ix (.slice dva dvn dvc) dg (w2.drewN nq) hz0 hz1 hx0 hx1 hBl (HG1.out.below hbq (Nat.le_refl _)) hBd (HD.out.below hbq (Nat.le_refl _)))
  go_wp2_with fail
  refine HR.out.mono ?_
  rintro e w5 ⟨x5, rfl, hx5', hb5⟩
  have hb5 : Below w2.heap.size w2 w5 := ⟨hb5.os, hb5.tape, hb5.output, hb5.size, hb5.block⟩
  have k2 := k2.belowS hb5
  obtain ⟨z0, z1, z2⟩ := rec3 k2
  have hbr := hb2.trans (hb5.mono hb2.size)
  have HP5 := Lib.hid (HP.out.below hb5 (Nat.le_refl _))
  have HG5 := Lib.hid (HG2.out.below hb5 (Nat.le_refl _))
  have HXB := Lib.hid (recL_isB size l ix dg)
  clear HR hbq hc3 hc3' hx4 hx5 hW hW2 hc4 HWH hc1 hc2
  rcases recE_or size l ix dg.length with hc6 | hc6
  rotate_left
  · rw [hc6]
    have HNO := Lib.hid (show ¬ verOk size path.length ix l path dg.length from fun q => by rw [(HOK.out.1 q).2.2.2.2.2] at hc6; cases hc6)
    clear hx5'
    go_wp2
    go_ret
    exact ⟨ret_bool (by rw [HV.out, if_neg HNO.out]), hbr⟩
  · have HSZ := Lib.hid (show 1 ≤ size ∧ size ≤ 32 by
      unfold recE at hc6
      split at hc6
      · rename_i q
        unfold recB at q
        simp only [Bool.and_eq_true] at q
        have := q.1
        unfold canB at this
        have := of_decide_eq_true this
        omega
      · cases hc6)
    have HYES := Lib.hid (fun (q : ¬ ∃ p ∈ path, ¬ (p.length : Int) = size) => show verOk size path.length ix l path dg.length from HOK.out.2 ⟨HMC.out HSZ.out, by omega, HX4.out, by first | rfl | trivial, q, hc6⟩)
    rw [hc6]
    have HCS := Lib.hid (fun k => show climbI size ix (recL size l ix dg) path (k + 1) = (if ix / 2 ^ k % 2 = 1 then pairT size ((k : Int) + 1) ((ix / 2 ^ k / 2 : Nat) : Int) (path.getD k []) (climbI size ix (recL size l ix dg) path k) else pairT size ((k : Int) + 1) ((ix / 2 ^ k / 2 : Nat) : Int) (climbI size ix (recL size l ix dg) path k) (path.getD k [])) from rfl)
    have HC0 := Lib.hid (show climbI size ix (recL size l ix dg) path 0 = recL size l ix dg from rfl)
    have HCB := Lib.hid (climbI_isB size ix (recL size l ix dg) path HXB.out)
    have HCL := Lib.hid (climbI_len size ix (recL size l ix dg) path (recL_len size l ix dg))
    rw [← HC0.out] at hx5'
    generalize climbI size ix (recL size l ix dg) path = CL at *
    clear hc6 HOK HXB HC0 HMC
    go_wp2
    go_loopw [11, 55] (fun x i wr => ∃ (k : Nat) (xv : Value), xv = x ∧ k ≤ path.length ∧ i = .int .i64 k ∧ Hid (∀ j, j < k → ((path.getD j []).length : Int) = size) ∧ Sl wr xv ((CL k).map (Value.int .u8)) ∧ Below w5.heap.size w5 wr) (fun _ i _ => path.length - (intOf i).toNat)
    case atStart => exact ⟨0, _, rfl, by omega, rfl, Lib.hid (fun j hj => absurd hj (by omega)), hx5', Below.refl _ _⟩
    case round =>
      obtain ⟨k, xv, rfl, hk, rfl, HJ, hxv, hbw⟩ := hrel
      obtain ⟨xa, xn, xc, rfl⟩ := hxv.val
      have k2 := k2.belowS hbw
      obtain ⟨z0, z1, z2⟩ := rec3 k2
      by_cases hlt : k < path.length
      · have hkI : (k : Int) < (path.length : Int) := by omega
        obtain ⟨yb, yo, rfl, hyb, yu, hyc, hyu⟩ := (HG5.out.below hbw (Nat.le_refl _)).at hlt
        have HIN := Lib.hid (show IsB (path.getD k []) from hBq _ (getD_mem hlt))
        have HST := Lib.hid (HCS.out k)
        have HMEM := Lib.hid (getD_mem hlt)
        generalize hY : path.getD k [] = Y at *
        have HY := Lib.hid hY
        obtain ⟨ya, yc, rfl, hyc1, hyc2⟩ := hyu.shape
        rw [List.length_map] at *
        clear hY
        by_cases hys : (Y.length : Int) = size
        rotate_left
        · have hne : ((Y.length : Int) != size) = true := by simpa using hys
          have HNO := Lib.hid (show ¬ verOk size path.length ix l path dg.length from fun q => q.2.2.2.2.1 ⟨Y, HMEM.out, hys⟩)
          go_wp2
          go_ret
          exact ⟨ret_bool (by rw [HV.out, if_neg HNO.out]), hbr.trans (hbw.mono hbr.size)⟩
        · have hne : ((Y.length : Int) != size) = false := by simpa using hys
          generalize hP : ix / 2 ^ k = P at *
          have hPb : (P : Int) ≤ ix := by have := Nat.div_le_self ix (2 ^ k); rw [hP] at this; exact Int.ofNat_le.2 this
          have HPB := Lib.hid (show (P : Int) / 2 ≤ 9223372036854775807 by omega)
          have HKL := Lib.hid (show k + 1 ≤ path.length ∧ (k : Int) + 1 ≤ 1000 ∧ (0 : Int) ≤ (k : Int) by omega)
          have HYl := Lib.hid (show Y.length ≤ 140737488351232 by have := HSZ.out; omega)
          have HCl := Lib.hid (show (CL k).length ≤ 140737488351232 by have := HCL.out k; omega)
          have HJ2 := Lib.hid (show ∀ j, j < k + 1 → ((path.getD j []).length : Int) = size from fun j hj => by
            rcases Nat.lt_or_ge j k with h1 | h1
            · exact HJ.out j h1
            · have e : j = k := by omega
              rw [e, HY.out]; exact hys)
          rw [show ((P / 2 : Nat) : Int) = (P : Int) / 2 by omega] at HST
          have hq : (ix : Int) / 2 ^ k = (P : Int) := by rw [← hP]; simp
          have hq2 : (ix : Int) / 2 ^ (k + 1) = (P : Int) / 2 := by rw [← hP, Int.pow_succ, ← Int.ediv_ediv_of_nonneg (Int.pow_nonneg (by decide))]; simp
          clear hP hPb HJ hys
          rcases Nat.mod_two_eq_zero_or_one P with hodd | hodd
          rotate_left
          · have hbit : ((P : Int) % 2 == 0) = false := odd_bit hodd
            rw [if_pos hodd] at HST
            clear hodd
            go_wp2_with fail
            refine (refMpair_any size ((k : Int) + 1) ((P : Int) / 2) (.slice ya Y.length yc) (.slice xa xn xc) Y (CL k) wr (by have := HKL.out; omega) (by have := HKL.out; omega) (by omega) (by have := HPB.out; omega) HIN.out (HCB.out k) HYl.out HCl.out hyu hxv).mono ?_
            rintro e w6 ⟨x6, rfl, hx6, hb6⟩
            go_wp2
            go_roundw
            case rel => exact ⟨k + 1, x6, rfl, HKL.out.1, by go_num, Lib.hid HJ2.out, by rw [HST.out]; exact hx6, hbw.trans (hb6.mono hbw.size)⟩
            case measure => simp [intOf]; have := HKL.out; omega
          · have hbit : ((P : Int) % 2 == 0) = true := even_bit hodd
            rw [if_neg (by omega)] at HST
            clear hodd
            go_wp2_with fail
            refine (refMpair_any size ((k : Int) + 1) ((P : Int) / 2) (.slice xa xn xc) (.slice ya Y.length yc) (CL k) Y wr (by have := HKL.out; omega) (by have := HKL.out; omega) (by omega) (by have := HPB.out; omega) (HCB.out k) HIN.out HCl.out HYl.out hxv hyu).mono ?_
            rintro e w6 ⟨x6, rfl, hx6, hb6⟩
            go_wp2
            go_roundw
            case rel => exact ⟨k + 1, x6, rfl, HKL.out.1, by go_num, Lib.hid HJ2.out, by rw [HST.out]; exact hx6, hbw.trans (hb6.mono hbw.size)⟩
            case measure => simp [intOf]; have := HKL.out; omega
      · obtain rfl : k = path.length := by omega
        have hkI : ¬ (path.length : Int) < (path.length : Int) := by omega
        have HALL := Lib.hid (show ¬ ∃ p ∈ path, ¬ (p.length : Int) = size from by
          rintro ⟨p, hp, hq⟩
          obtain ⟨j, hj, rfl⟩ := List.getElem_of_mem hp
          have := HJ.out j hj
          rw [List.getD_eq_getElem?_getD, List.getElem?_eq_getElem hj] at this
          exact hq this)
        have cv1 := hxv.conv
        have cv2 := (HP5.out.below hbw (Nat.le_refl _)).conv
        have HE : Hid (strOfNums (CL path.length) = strOfNums pub ↔ CL path.length = pub) := ⟨strOfNums_inj (HCB.out _) hBp, fun h => by rw [h]⟩
        by_cases hpe : CL path.length = pub
        · have hst : ((strOfNums (CL path.length)).toList == (strOfNums pub).toList) = true := by rw [hpe]; exact beq_self_eq_true _
          go_wp2
          go_ret
          exact ⟨ret_bool (by rw [HV.out, if_pos (HYES.out HALL.out)]; exact (decide_eq_true hpe).symm), hbr.trans (hbw.mono hbr.size)⟩
        · have hst : ((strOfNums (CL path.length)).toList == (strOfNums pub).toList) = false := by rw [beq_eq_false_iff_ne]; exact fun e => hpe (HE.out.1 (toList_inj e))
          go_wp2
          go_ret
          exact ⟨ret_bool (by rw [HV.out, if_pos (HYES.out HALL.out)]; exact (decide_eq_false hpe).symm), hbr.trans (hbw.mono hbr.size)⟩

theorem refVerify_any (size : Int) (vp : Value) (pub : List Int) (h : Int) (vd : Value) (dg : List Int) (sv : Value) (idx : Int) (l path : List (List Int)) (w : World) (hz0 : -9223372036854775808 ≤ size) (hz1 : size ≤ 9223372036854775807) (hx0 : -9223372036854775808 ≤ idx) (hx1 : idx ≤ 9223372036854775807)
    (hBp : IsB pub) (hp : Sl w vp (pub.map (Value.int .u8))) (hBd : IsB dg) (hd : Sl w vd (dg.map (Value.int .u8))) (hBl : ∀ p ∈ l, IsB p) (hBq : ∀ p ∈ path, IsB p) (hg : SigV w sv idx l path) :
    Calls Tryd.prog 50 #[.int .i64 size, vp, .int .i64 h, vd, sv] w fun e w' => e = .returned (.bool (verB size pub h dg idx l path)) ∧ Below w.heap.size w w' := by
  by_cases hno : 0 ≤ h ∧ h ≤ 8 ∧ 0 ≤ idx ∧ idx < 2 ^ h.toNat ∧ (path.length : Int) = h
  · obtain ⟨h1, h2, h3, h4, rfl⟩ := hno
    obtain ⟨ix, rfl⟩ : ∃ ix : Nat, idx = ix := ⟨idx.toNat, by omega⟩
    rw [Int.toNat_natCast] at h4
    have e : ((2 : Int) ^ path.length) = ((2 ^ path.length : Nat) : Int) := by simp
    rw [e] at h4
    exact refVerify_main size vp pub vd dg sv ix (2 ^ path.length) l path w hz0 hz1 hx0 hx1 hBp hp hBd hd hBl hBq hg (by omega) (by omega) ⟨Nat.one_le_two_pow, Nat.le_trans (Nat.pow_le_pow_right (by omega) (show path.length ≤ 8 by omega)) (by decide)⟩ e
  · exact refVerify_stop size vp pub h vd dg sv idx l path w hz0 hz1 hx0 hx1 hBp hp hBd hd hBl hBq hg hno

end Go.Proofs.YtililoojjfcfgaaDoor

namespace Go.Proofs.YtililoojjfcfgaaDoor
open Go.RowKit
set_option linter.unusedVariables false

set_option maxRecDepth 100000 in
set_option maxHeartbeats 4000000 in
theorem mtsVerifies_walk (size : Int) (vp : Value) (pub : List Int) (h : Int) (vd : Value) (dg : List Int) (sv : Value) (idx : Int) (l path : List (List Int)) (w : World) (ht : Tabs w) (hz0 : -9223372036854775808 ≤ size) (hz1 : size ≤ 9223372036854775807)
    (hBp : IsB pub) (hp : Sl w vp (pub.map (Value.int .u8))) (hpl : pub.length ≤ 140737488351232) (hh0 : -9223372036854775808 ≤ h) (hh1 : h ≤ 9223372036854775807) (hBd : IsB dg) (hd : Sl w vd (dg.map (Value.int .u8))) (hdl : dg.length ≤ 140737488351232)
    (hx0 : -9223372036854775808 ≤ idx) (hx1 : idx ≤ 9223372036854775807) (hBl : ∀ p ∈ l, IsB p) (hBq : ∀ p ∈ path, IsB p) (hg : SigV w sv idx l path) :
    Calls Tryd.prog 11 #[.int .i64 size, vp, .int .i64 h, vd, sv] w fun e w' => e = .returned (.bool true) ∧ Below w.heap.size w w' := by
  obtain ⟨pa, pc, qa, qc, rfl⟩ := hg.val
  obtain ⟨pva, pvn, pvc, rfl⟩ := hp.val
  obtain ⟨dva, dvn, dvc, rfl⟩ := hd.val
  have hb1 : Below w.heap.size w (w.alloc (.cells #[.int .i64 idx, .slice pa l.length pc, .slice qa path.length qc] 61)) := (Below.refl _ _).alloc (Nat.le_refl _) _
  have k1 := Blk.new w 61 #[.int .i64 idx, .slice pa l.length pc, .slice qa path.length qc]
  have H1 := Lib.hid (fun w' (q : Below w.heap.size w w') => verify_any size (.slice pva pvn pvc) pub h (.slice dva dvn dvc) dg _ idx l path w' hz0 hz1 hx0 hx1 hBp (hp.below q (Nat.le_refl _)) hBd (hd.below q (Nat.le_refl _)) hBl hBq (hg.below q (Nat.le_refl _)) (ht.below q))
  have H2 := Lib.hid (fun w' (q : Below w.heap.size w w') => refVerify_any size (.slice pva pvn pvc) pub h (.slice dva dvn dvc) dg _ idx l path w' hz0 hz1 hx0 hx1 hBp (hp.below q (Nat.le_refl _)) hBd (hd.below q (Nat.le_refl _)) hBl hBq (hg.below q (Nat.le_refl _)))
  have H3 := Lib.hid (fun w' (q : Below w.heap.size w w') => awake06_any w' (ht.below q))
  have HB1 := Lib.hid hb1
  have hbeq : ∀ b : Bool, (b == b) = true := fun b => beq_self_eq_true b
  generalize verB size pub h dg idx l path = V at *
  have HK := Lib.hid (fun w' (q : Below (w.alloc (.cells #[.int .i64 idx, .slice pa l.length pc, .slice qa path.length qc] 61)).heap.size (w.alloc (.cells #[.int .i64 idx, .slice pa l.length pc, .slice qa path.length qc] 61)) w') => rec3 (k1.belowS q))
  have hG := Lib.hid (HK.out _ (Below.refl _ _))
  obtain ⟨z0, z1, z2⟩ := rec3 k1
  clear hp hd hg ht hb1 k1
  go_enter Tryd.func11, Tryd.ntmps11
  go_upto_region 1 with (fail)
  generalize (w.alloc (.cells #[.int .i64 idx, .slice pa l.length pc, .slice qa path.length qc] 61)) = w1 at *
  clear z0 z1 z2
  go_wp2
  go_region_held3 (fun w' => w'.cell? ⟨w.heap.size, 0, none⟩ = some (.int .i64 idx) ∧ w'.cell? ⟨w.heap.size, 1, none⟩ = some (.slice pa l.length pc) ∧ w'.cell? ⟨w.heap.size, 2, none⟩ = some (.slice qa path.length qc)) (exact hG.out) (first | (go_at_call 30; refine (H3.out _ (HB1.out.trans (hb3.mono HB1.out.size))).mono ?_; rintro e w4 ⟨rfl, hb4⟩; have hb4 := below_trans2 hb3 hb4; have hG := Lib.hid (HK.out _ hb4)) | (go_at_call 50; refine (H2.out _ (HB1.out.trans (hb2.mono HB1.out.size))).mono ?_; rintro e w3 ⟨rfl, hb3⟩; have hb3 := below_trans2 hb2 hb3; have hG := Lib.hid (HK.out _ hb3)) | (go_at_call 49; refine (H1.out _ (by first | exact HB1.out | exact HB1.out.drew)).mono ?_; rintro e w2 ⟨rfl, hb2⟩; have hb2 : Below w1.heap.size w1 w2 := ⟨hb2.os, hb2.tape, hb2.output, hb2.size, hb2.block⟩; have hG := Lib.hid (HK.out _ hb2)))
  all_goals
    have hbz := HB1.out.trans (hb4.mono HB1.out.size)
    go_wp2
    go_ret
    exact ⟨rfl, hbz⟩

end Go.Proofs.YtililoojjfcfgaaDoor
