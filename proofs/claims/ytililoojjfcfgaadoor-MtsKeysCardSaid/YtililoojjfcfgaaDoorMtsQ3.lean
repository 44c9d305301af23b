/- The walks of a search for a text of another length. Trees of signing keys: Verify, the program's. Trees of signing keys: what was signed leads to the root. Conditions: none. Trees of signing keys: the walk of the law MtsBack. -/
import Derived.Test.YtililoojjfcfgaaDoorTextA
import Derived.Test.YtililoojjfcfgaaDoorBlk
import Derived.Test.YtililoojjfcfgaaDoorMtsM1
import Derived.Test.YtililoojjfcfgaaDoorSig1
import Derived.Test.YtililoojjfcfgaaDoorMtsQ1
import Derived.Test.YtililoojjfcfgaaDoorMtsM2
import Derived.Test.YtililoojjfcfgaaDoorMake
import Derived.Test.YtililoojjfcfgaaDoorShaE
import Derived.Deep.DeepCutAuto
import Derived.Deep.RegionHeld3
import Derived.Deep.Cut
namespace Go.Proofs.YtililoojjfcfgaaDoor
open Go.RowKit
set_option linter.unusedVariables false

theorem mvOdd_any (v : Value) (bs : List Int) (cs : Nat) (size : Int) (w : World) (hz : Blk w cs 3 #[.int .i64 size]) (hs : Sl w v (bs.map (Value.int .u8))) :
    Calls Tryd.prog 92 #[v, .pointer (some ⟨cs, 0, none⟩)] w fun e w' => e = .returned (.bool (decide (¬ (bs.length : Int) = size))) ∧ w = w' := by
  obtain ⟨a, cap, rfl, hc, hm⟩ := hs.shape
  rw [List.length_map] at *
  have hz0 := hz.cell 0
  obtain ⟨bb, hbb⟩ : ∃ bb, bb = decide (¬ (bs.length : Int) = size) := ⟨_, rfl⟩
  rw [← hbb]
  have HB := Lib.hid hbb
  clear hbb
  go_enter Tryd.func92, Tryd.ntmps92
  go_wp2
  go_ret
  exact ⟨ret_bool (by rw [HB.out]; by_cases h : (bs.length : Int) = size <;> simp [h]), rfl⟩

set_option maxHeartbeats 1000000 in
theorem mvIndex_any (v : Value) (pss : List (List Int)) (cs : Nat) (size : Int) (w : World) (hz : Blk w cs 3 #[.int .i64 size]) (h : Sls w v pss) :
    Calls Tryd.prog 132 #[v, .func (.func 92) #[] #[.pointer (some ⟨cs, 0, none⟩)]] w fun e w' => ∃ r : Int, e = .returned (.int .i64 r) ∧ (0 ≤ r ↔ ∃ p ∈ pss, ¬ (p.length : Int) = size) ∧ w = w' := by
  obtain ⟨a, cap, rfl, hc, hm⟩ := h.shape
  go_enter Tryd.func132, Tryd.ntmps132
  go_wp2
  go_loopw [8] (fun i wr => ∃ k : Nat, k ≤ pss.length ∧ i = .int .i64 k ∧ Hid (∀ j, j < k → ¬ ¬ ((pss.getD j []).length : Int) = size) ∧ w = wr) (fun i _ => pss.length - (intOf i).toNat)
  case atStart => exact ⟨0, by omega, rfl, fun j hj => absurd hj (by omega), rfl⟩
  case round =>
    obtain ⟨k, hk, rfl, hall, rfl⟩ := hrel
    by_cases hlt : k < pss.length
    · obtain ⟨b, off, rfl, hb, u, hu, hs⟩ := h.at hlt
      have hkI : (k : Int) < (pss.length : Int) := by omega
      go_wp2_with fail
      refine (mvOdd_any u _ cs size w hz hs).mono ?_
      by_cases hl : ¬ ((pss.getD k []).length : Int) = size
      · rw [show decide (¬ ((pss.getD k []).length : Int) = size) = true by simpa using hl]
        rintro e w1 ⟨rfl, rfl⟩
        have HL := Lib.hid hl
        clear hl hs hu
        go_wp2
        go_ret
        refine ⟨_, rfl, ⟨fun _ => ⟨pss[k], List.getElem_mem hlt, ?_⟩, fun _ => by omega⟩, rfl⟩
        have := HL.out
        rwa [List.getD_eq_getElem?_getD, List.getElem?_eq_getElem hlt] at this
      · rw [show decide (¬ ((pss.getD k []).length : Int) = size) = false by simpa using hl]
        rintro e w1 ⟨rfl, rfl⟩
        have HL := Lib.hid hl
        clear hl hs hu
        go_wp2
        go_roundw
        case rel =>
          refine ⟨k + 1, by omega, by go_num, fun j hj => ?_, by first | rfl | trivial⟩
          rcases Nat.lt_or_ge j k with h | h
          · exact hall.out j h
          · obtain rfl : j = k := by omega
            exact HL.out
        case measure => simp [intOf]; omega
    · have hkI : ¬ (k : Int) < (pss.length : Int) := by omega
      go_wp2
      go_ret
      refine ⟨_, rfl, ⟨fun h0 => absurd h0 (by decide), fun ⟨p, hp, hl⟩ => ?_⟩, rfl⟩
      obtain ⟨j, hj, rfl⟩ := List.mem_iff_getElem.1 hp
      have := hall.out j (by omega)
      rw [List.getD_eq_getElem?_getD, List.getElem?_eq_getElem hj] at this
      exact absurd hl this

theorem mvContains_any (v : Value) (pss : List (List Int)) (cs : Nat) (size : Int) (w : World) (hz : Blk w cs 3 #[.int .i64 size]) (h : Sls w v pss) :
    Calls Tryd.prog 93 #[v, .func (.func 92) #[] #[.pointer (some ⟨cs, 0, none⟩)]] w fun e w' => e = .returned (.bool (decide (∃ p ∈ pss, ¬ (p.length : Int) = size))) ∧ w = w' := by
  have hi := Lib.hid (mvIndex_any v pss cs size w hz h)
  go_enter Tryd.func93, Tryd.ntmps93
  go_wp2_with fail
  refine hi.out.mono ?_
  rintro e w1 ⟨r, rfl, hr, rfl⟩
  have HR := Lib.hid hr
  clear hr
  go_wp2
  go_ret
  exact ⟨ret_bool (by rw [decide_eq_decide]; exact HR.out), rfl⟩


end Go.Proofs.YtililoojjfcfgaaDoor

namespace Go.Proofs.YtililoojjfcfgaaDoor
open Go.RowKit
set_option linter.unusedVariables false

/-- The hash of the k-th level on a way up. -/
def climbI (size : Int) (idx : Nat) (x : List Int) (path : List (List Int)) : Nat → List Int
  | 0 => x
  | k + 1 => if idx / 2 ^ k % 2 = 1 then pairT size ((k : Int) + 1) ((idx / 2 ^ k / 2 : Nat) : Int) (path.getD k []) (climbI size idx x path k) else pairT size ((k : Int) + 1) ((idx / 2 ^ k / 2 : Nat) : Int) (climbI size idx x path k) (path.getD k [])
theorem climbI_isB (size : Int) (idx : Nat) (x : List Int) (path : List (List Int)) (h : IsB x) : ∀ k, IsB (climbI size idx x path k)
  | 0 => h
  | k + 1 => by
    rw [climbI]; split
    · exact pairT_isB _ _ _ _ _
    · exact pairT_isB _ _ _ _ _
def verOk (size h idx : Int) (l path : List (List Int)) (m : Nat) : Prop :=
  mcanB size h = true ∧ 0 ≤ idx ∧ idx < 2 ^ h.toNat ∧ (path.length : Int) = h ∧ (¬ ∃ p ∈ path, ¬ (p.length : Int) = size) ∧ recE size l idx m = 0
instance (size h idx : Int) (l path : List (List Int)) (m : Nat) : Decidable (verOk size h idx l path m) := by unfold verOk; infer_instance
def verB (size : Int) (pub : List Int) (h : Int) (dg : List Int) (idx : Int) (l path : List (List Int)) : Bool :=
  if verOk size h idx l path dg.length then decide (climbI size idx.toNat (recL size l idx dg) path path.length = pub) else false
theorem recE_or (size : Int) (l : List (List Int)) (idx : Int) (m : Nat) : recE size l idx m = 0 ∨ recE size l idx m = 1 := by unfold recE; split <;> simp

theorem and_one (P : Nat) (h : P < 9223372036854775808) : bits BinOp.and IntKind.i64 (P : Int) 1 = ((P % 2 : Nat) : Int) := by
  have hx : P &&& 1 = P % 2 := Nat.and_one_is_mod P
  have h1 : (BitVec.ofInt 64 (P : Int)).toNat = P := by
    rw [BitVec.ofInt_natCast, BitVec.toNat_ofNat]; exact Nat.mod_eq_of_lt (by omega)
  have h2 : (BitVec.ofInt 64 1).toNat = 1 := by decide
  show IntKind.i64.wrap ((BitVec.ofInt 64 (P : Int) &&& BitVec.ofInt 64 1).toNat : Int) = _
  rw [BitVec.toNat_and, h1, h2, hx, IntKind.wrap_i64]
  omega

set_option maxRecDepth 100000 in
set_option maxHeartbeats 8000000 in
theorem verify_any (size : Int) (vp : Value) (pub : List Int) (h : Int) (vd : Value) (dg : List Int) (sv : Value) (idx : Int) (l path : List (List Int)) (w : World) (hz0 : -9223372036854775808 ≤ size) (hz1 : size ≤ 9223372036854775807) (hx0 : -9223372036854775808 ≤ idx) (hx1 : idx ≤ 9223372036854775807)
    (hBp : IsB pub) (hp : Sl w vp (pub.map (Value.int .u8))) (hBd : IsB dg) (hd : Sl w vd (dg.map (Value.int .u8))) (hBl : ∀ p ∈ l, IsB p) (hBq : ∀ p ∈ path, IsB p) (hg : SigV w sv idx l path) (ht : Tabs w) :
    Calls Tryd.prog 49 #[.int .i64 size, vp, .int .i64 h, vd, sv] w fun e w' => e = .returned (.bool (verB size pub h dg idx l path)) ∧ Below w.heap.size w w' := by
  obtain ⟨pa, pc, qa, qc, rfl⟩ := hg.val
  obtain ⟨g1, g2⟩ := hg.parts
  obtain ⟨pva, pvn, pvc, rfl⟩ := hp.val
  obtain ⟨dva, dvn, dvc, rfl⟩ := hd.val
  have hb1 : Below w.heap.size w (w.alloc (.cells #[.int .i64 size] 3)) := (Below.refl _ _).alloc (Nat.le_refl _) _
  have hb2 : Below w.heap.size w ((w.alloc (.cells #[.int .i64 size] 3)).alloc (.cells #[.int .i64 idx, .slice pa l.length pc, .slice qa path.length qc] 61)) := hb1.alloc hb1.size _
  have k1 : Blk ((w.alloc (.cells #[.int .i64 size] 3)).alloc (.cells #[.int .i64 idx, .slice pa l.length pc, .slice qa path.length qc] 61)) w.heap.size 3 #[.int .i64 size] := (Blk.new w _ _).alloc _
  have k2 : Blk ((w.alloc (.cells #[.int .i64 size] 3)).alloc (.cells #[.int .i64 idx, .slice pa l.length pc, .slice qa path.length qc] 61)) (w.heap.size + 1) 61 #[.int .i64 idx, .slice pa l.length pc, .slice qa path.length qc] := by
    have := Blk.new (w.alloc (.cells #[.int .i64 size] 3)) 61 #[.int .i64 idx, .slice pa l.length pc, .slice qa path.length qc]
    simpa using this
  have hmf : ∀ (fn : Fn) (first cap : Array Value) (w : World), (Instr.makeFunc fn first cap).run Tryd.prog w = .ok (.func fn first cap) w := fun _ _ _ _ => rfl
  have HP := Lib.hid (hp.below hb2 (Nat.le_refl _))
  have HD := Lib.hid (hd.below hb2 (Nat.le_refl _))
  have HG1 := Lib.hid (g1.below hb2 (Nat.le_refl _))
  have HG2 := Lib.hid (g2.below hb2 (Nat.le_refl _))
  have HT := Lib.hid (ht.below hb2)
  have HV := Lib.hid (show verB size pub h dg idx l path = if verOk size h idx l path dg.length then decide (climbI size idx.toNat (recL size l idx dg) path path.length = pub) else false from rfl)
  generalize verB size pub h dg idx l path = V at *
  have HOK : Hid (verOk size h idx l path dg.length ↔ (mcanB size h = true ∧ 0 ≤ idx ∧ idx < 2 ^ h.toNat ∧ (path.length : Int) = h ∧ (¬ ∃ p ∈ path, ¬ (p.length : Int) = size) ∧ recE size l idx dg.length = 0)) := ⟨fun h => h, fun h => h⟩
  clear hp hd hg g1 g2 ht
  go_enter Tryd.func49, Tryd.ntmps49
  go_wp2_with fail
  generalize ((w.alloc (.cells #[.int .i64 size] 3)).alloc (.cells #[.int .i64 idx, .slice pa l.length pc, .slice qa path.length qc] 61)) = w2 at *
  have HM := Lib.hid (mcan_any size h w2)
  have q1 : w2.cell? ⟨w.heap.size, 0, none⟩ = some (.int .i64 size) := k1.cell 0
  obtain ⟨z0, z1, z2⟩ := rec3 k2
  by_cases hc1 : mcanB size h = true
  rotate_left
  · rw [Bool.not_eq_true] at hc1
    rw [hc1] at HM
    have HNO := Lib.hid (show ¬ verOk size h idx l path dg.length from fun q => by rw [(HOK.out.1 q).1] at hc1; cases hc1)
    refine HM.out.mono ?_
    rintro e w3 ⟨rfl, rfl⟩
    go_wp2
    go_ret
    exact ⟨ret_bool (by rw [HV.out, if_neg HNO.out]), hb2⟩
  rw [hc1] at HM
  obtain ⟨hs0, hs1, hh0, hh1⟩ : 1 ≤ size ∧ size ≤ 32 ∧ 0 ≤ h ∧ h ≤ 8 := by unfold mcanB at hc1; exact of_decide_eq_true hc1
  obtain ⟨hn, rfl⟩ : ∃ hn : Nat, h = hn := ⟨h.toNat, by omega⟩
  rw [Int.toNat_natCast] at HOK
  have HC1 := Lib.hid hc1
  clear hc1
  by_cases hc2 : 0 ≤ idx
  rotate_left
  · have hx : idx < 0 := by omega
    have HNO := Lib.hid (show ¬ verOk size hn idx l path dg.length from fun q => hc2 (HOK.out.1 q).2.1)
    refine HM.out.mono ?_
    rintro e w3 ⟨rfl, rfl⟩
    go_wp2
    go_ret
    exact ⟨ret_bool (by rw [HV.out, if_neg HNO.out]), hb2⟩
  obtain ⟨ix, rfl⟩ : ∃ ix : Nat, idx = ix := ⟨idx.toNat, by omega⟩
  rw [Int.toNat_natCast] at HV
  have hpos : (0 : Int) < 2 ^ hn := Int.pow_pos (by decide)
  by_cases hc3 : (ix : Int) < 2 ^ hn
  rotate_left
  · have hx : 0 < (ix : Int) / 2 ^ hn := by
      have : 1 ≤ (ix : Int) / 2 ^ hn := (Int.le_ediv_iff_mul_le hpos).2 (by omega)
      omega
    have HNO := Lib.hid (show ¬ verOk size hn ix l path dg.length from fun q => hc3 (HOK.out.1 q).2.2.1)
    refine HM.out.mono ?_
    rintro e w3 ⟨rfl, rfl⟩
    go_wp2
    go_ret
    exact ⟨ret_bool (by rw [HV.out, if_neg HNO.out]), hb2⟩
  have hx : (ix : Int) / 2 ^ hn ≤ 0 := by rw [Int.ediv_eq_zero_of_lt (by omega) hc3]; omega
  have HC3 := Lib.hid hc3
  clear hc3 hpos
  by_cases hc4 : (path.length : Int) = hn
  rotate_left
  · have hx4 : ((path.length : Int) != (hn : Int)) = true := by simpa using hc4
    have HNO := Lib.hid (show ¬ verOk size hn ix l path dg.length from fun q => hc4 (HOK.out.1 q).2.2.2.1)
    refine HM.out.mono ?_
    rintro e w3 ⟨rfl, rfl⟩
    go_wp2
    go_ret
    exact ⟨ret_bool (by rw [HV.out, if_neg HNO.out]), hb2⟩
  have hx4 : ((path.length : Int) != (hn : Int)) = false := by simpa using hc4
  have HPL := Lib.hid (show path.length ≤ 8 by omega)
  obtain rfl : hn = path.length := by omega
  have HX := Lib.hid (mvContains_any (.slice qa path.length qc) path w.heap.size size w2 k1 HG2.out)
  by_cases hc5 : ∃ p ∈ path, ¬ (p.length : Int) = size
  · rw [decide_eq_true hc5] at HX
    have HNO := Lib.hid (show ¬ verOk size path.length ix l path dg.length from fun q => (HOK.out.1 q).2.2.2.2.1 hc5)
    refine HM.out.mono ?_
    rintro e w3 ⟨rfl, rfl⟩
    go_wp2_with fail
    refine HX.out.mono ?_
    rintro e w4 ⟨rfl, rfl⟩
    go_wp2
    go_ret
    exact ⟨ret_bool (by rw [HV.out, if_neg HNO.out]), hb2⟩
  rw [decide_eq_false hc5] at HX
  have HC5 := Lib.hid hc5
  clear hc5 hc4
  have HR := Lib.hid (recover_any size (.slice pa l.length pc) l ix (.slice dva dvn dvc) dg w2 hz0 hz1 hx0 hx1 hBl HG1.out hBd HD.out HT.out)
  refine HM.out.mono ?_
  rintro e w3 ⟨rfl, rfl⟩
  go_wp2_with fail
  refine HX.out.mono ?_
  rintro e w4 ⟨rfl, rfl⟩
  go_wp2_with fail
  refine HR.out.mono ?_
  rintro e w5 ⟨x5, rfl, hx5, hb5⟩
  have k1 := k1.belowS hb5
  have k2 := k2.belowS hb5
  have q1 : w5.cell? ⟨w.heap.size, 0, none⟩ = some (.int .i64 size) := k1.cell 0
  obtain ⟨z0, z1, z2⟩ := rec3 k2
  have hbr := hb2.trans (hb5.mono hb2.size)
  have HP5 := Lib.hid (HP.out.below hb5 (Nat.le_refl _))
  have HG5 := Lib.hid (HG2.out.below hb5 (Nat.le_refl _))
  have HT5 := Lib.hid (HT.out.below hb5)
  have HXB := Lib.hid (recL_isB size l ix dg)
  rcases recE_or size l ix dg.length with hc6 | hc6
  rotate_left
  · rw [hc6]
    have HNO := Lib.hid (show ¬ verOk size path.length ix l path dg.length from fun q => by rw [(HOK.out.1 q).2.2.2.2.2] at hc6; cases hc6)
    clear hx5 HR HX
    go_wp2
    go_ret
    exact ⟨ret_bool (by rw [HV.out, if_neg HNO.out]), hbr⟩
  · have HYES := Lib.hid (show verOk size path.length ix l path dg.length from HOK.out.2 ⟨HC1.out, by omega, HC3.out, by first | rfl | trivial, HC5.out, hc6⟩)
    rw [hc6]
    have HVY := Lib.hid (show V = decide (climbI size ix (recL size l ix dg) path path.length = pub) by rw [HV.out, if_pos HYES.out])
    clear HV
    have HCS := Lib.hid (fun k => show climbI size ix (recL size l ix dg) path (k + 1) = (if ix / 2 ^ k % 2 = 1 then pairT size ((k : Int) + 1) ((ix / 2 ^ k / 2 : Nat) : Int) (path.getD k []) (climbI size ix (recL size l ix dg) path k) else pairT size ((k : Int) + 1) ((ix / 2 ^ k / 2 : Nat) : Int) (climbI size ix (recL size l ix dg) path k) (path.getD k [])) from rfl)
    have HC0 := Lib.hid (show climbI size ix (recL size l ix dg) path 0 = recL size l ix dg from rfl)
    have HCB := Lib.hid (climbI_isB size ix (recL size l ix dg) path HXB.out)
    rw [← HC0.out] at hx5
    generalize climbI size ix (recL size l ix dg) path = CL at *
    clear HR HX hx hx4 hc6 HOK HC1 HC3 HXB HM HC0
    go_wp2
    go_loopw [12, 14, 66] (fun x pl i wr => ∃ (k : Nat) (xv : Value), xv = x ∧ k ≤ path.length ∧ pl = .int .i64 ((ix / 2 ^ k : Nat) : Int) ∧ i = .int .i64 k ∧ Sl wr xv ((CL k).map (Value.int .u8)) ∧ Below w5.heap.size w5 wr) (fun _ _ i _ => path.length - (intOf i).toNat)
    case atStart => exact ⟨0, _, rfl, by omega, by simp, rfl, hx5, Below.refl _ _⟩
    case round =>
      obtain ⟨k, xv, rfl, hk, rfl, rfl, hxv, hbw⟩ := hrel
      obtain ⟨xa, xn, xc, rfl⟩ := hxv.val
      have k1 := k1.belowS hbw
      have q1 : wr.cell? ⟨w.heap.size, 0, none⟩ = some (.int .i64 size) := k1.cell 0
      by_cases hlt : k < path.length
      · have hkI : (k : Int) < (path.length : Int) := by omega
        obtain ⟨yb, yo, rfl, hyb, yu, hyc, hyu⟩ := (HG5.out.below hbw (Nat.le_refl _)).at hlt
        have HIN := Lib.hid (show IsB (path.getD k []) from hBq _ (getD_mem hlt))
        have HST := Lib.hid (HCS.out k)
        generalize path.getD k [] = Y at *
        obtain ⟨ya, yn, yc, rfl⟩ := hyu.val
        generalize hP : ix / 2 ^ k = P at *
        have HPN := Lib.hid (show ix / 2 ^ (k + 1) = P / 2 by rw [← hP, Nat.pow_succ, Nat.div_div_eq_div_mul])
        have hPb : (P : Int) ≤ ix := by have := Nat.div_le_self ix (2 ^ k); omega
        have hqd : ((P : Int)).tdiv 2 = ((P / 2 : Nat) : Int) := by rw [Int.tdiv_eq_ediv_of_nonneg (by omega)]; omega
        have hkn := HPL.out
        clear hP
        by_cases hodd : P % 2 = 1
        · have hbit : (bits BinOp.and IntKind.i64 (P : Int) 1 == 1) = true := by rw [and_one P (by omega), hodd]; rfl
          rw [if_pos hodd] at HST
          clear hodd
          go_wp2_with fail
          refine (mpair_any size ((k : Int) + 1) ((P / 2 : Nat) : Int) (.slice ya yn yc) (.slice xa xn xc) Y (CL k) wr (by omega) (by omega) (by omega) (by omega) HIN.out (HCB.out k) hyu hxv (HT5.out.below hbw)).mono ?_
          rintro e w6 ⟨x6, rfl, hx6, hb6⟩
          go_wp2
          go_roundw
          case rel => exact ⟨k + 1, x6, rfl, by omega, by rw [HPN.out]; congr 1, by go_num, by rw [HST.out]; exact hx6, hbw.trans (hb6.mono hbw.size)⟩
          case measure => simp [intOf]; omega
        · have hbit : (bits BinOp.and IntKind.i64 (P : Int) 1 == 1) = false := by rw [and_one P (by omega), show P % 2 = 0 by omega]; rfl
          rw [if_neg hodd] at HST
          clear hodd
          go_wp2_with fail
          refine (mpair_any size ((k : Int) + 1) ((P / 2 : Nat) : Int) (.slice xa xn xc) (.slice ya yn yc) (CL k) Y wr (by omega) (by omega) (by omega) (by omega) (HCB.out k) HIN.out hxv hyu (HT5.out.below hbw)).mono ?_
          rintro e w6 ⟨x6, rfl, hx6, hb6⟩
          go_wp2
          go_roundw
          case rel => exact ⟨k + 1, x6, rfl, by omega, by rw [HPN.out]; congr 1, by go_num, by rw [HST.out]; exact hx6, hbw.trans (hb6.mono hbw.size)⟩
          case measure => simp [intOf]; omega
      · obtain rfl : k = path.length := by omega
        have hkI : ¬ (path.length : Int) < (path.length : Int) := by omega
        have HE := Lib.hid (bytesEq_any (.slice xa xn xc) (.slice pva pvn pvc) (CL path.length) pub wr hxv (HP5.out.below hbw (Nat.le_refl _)) (HCB.out _) hBp)
        go_wp2_with fail
        refine HE.out.mono ?_
        rintro e w8 ⟨rfl, rfl⟩
        go_wp2
        go_ret
        exact ⟨ret_bool (by rw [HVY.out]), hbr.trans (hbw.mono hbr.size)⟩

end Go.Proofs.YtililoojjfcfgaaDoor

namespace Go.Proofs.YtililoojjfcfgaaDoor
open Go.RowKit
set_option linter.unusedVariables false

theorem hashT_size (n : Nat) (hn : n ≤ 32) (tag : Int) (pss : List (List Int)) (h : codeT tag pss = 0) : (hashT n tag pss).length = n := by
  unfold hashT; rw [if_pos h, cutI_len]; omega
theorem codeT_ok {tag : Int} {pss : List (List Int)} (h0 : 0 ≤ tag) (h1 : tag ≤ 255) (h : ∀ p ∈ pss, p.length ≤ 65535) : codeT tag pss = 0 := by
  unfold codeT
  rw [if_neg (by omega), if_neg (fun ⟨p, hp, hl⟩ => by have := h p hp; omega)]
theorem secI_size (n : Nat) (hn : n ≤ 32) (seed : List Int) (idx i : Int) (h : canB n seed.length idx = true) : (secI n seed idx i).length = n := by
  unfold secI; rw [if_pos h]
  refine hashT_size n hn _ _ (codeT_ok (by omega) (by omega) fun p hp => ?_)
  simp only [List.mem_cons, List.not_mem_nil, or_false] at hp
  unfold canB at h
  have := of_decide_eq_true h
  rcases hp with rfl | rfl | rfl
  · omega
  · rw [numI_len]; omega
  · rw [numI_len]; omega
theorem chI_size (n : Nat) (hn : n ≤ 32) (idx i f : Int) (x : List Int) (h : x.length = n) : ∀ k, (chI n idx i f x k).length = n
  | 0 => h
  | k + 1 => hashT_size n hn _ _ (codeT_ok (by omega) (by omega) fun p hp => by
    simp only [List.mem_cons, List.not_mem_nil, or_false] at hp
    have := chI_size n hn idx i f x h k
    rcases hp with rfl | rfl | rfl | rfl
    · rw [numI_len]; omega
    · rw [numI_len]; omega
    · rw [numI_len]; omega
    · omega)

theorem sgU_at (size : Int) (seed : List Int) (idx : Int) (dd : List Int) (k i : Nat) (h : i < k) : (sgU size seed idx dd k).getD i [] = chI size idx i 0 (secI size seed idx i) (dd.getD i 0).toNat := by
  unfold sgU
  rw [List.getD_eq_getElem?_getD, List.getElem?_map, List.getElem?_range h]; rfl

theorem back_all (n : Nat) (h1 : 1 ≤ n) (hn : n ≤ 32) (seed : List Int) (idx : Int) (dg : List Int) (hs : seed.length ≤ 64) (hi0 : 0 ≤ idx) (hi1 : idx < 256) (hd : dg.length = n) :
    signE n seed.length idx dg.length = 0 ∧ keyE n seed.length idx = 0 ∧ signL n seed idx dg = sgU n seed idx (digitsOf dg) (4 * n + 5) ∧ recE n (sgU n seed idx (digitsOf dg) (4 * n + 5)) idx dg.length = 0 ∧ recL n (sgU n seed idx (digitsOf dg) (4 * n + 5)) idx dg = keyL n seed idx ∧ (keyL n seed idx).length = n := by
  have hc : canB n seed.length idx = true := decide_eq_true (by omega)
  have hc0 : canB n 0 idx = true := decide_eq_true (by omega)
  have hall : ¬ ∃ p ∈ sgU n seed idx (digitsOf dg) (4 * n + 5), ¬ (p.length : Int) = (n : Int) := by
    rintro ⟨p, hp, hne⟩
    unfold sgU at hp
    obtain ⟨i, _, rfl⟩ := List.mem_map.1 hp
    rw [chI_size n hn _ _ _ _ (secI_size n hn seed idx i hc)] at hne
    exact hne rfl
  have hrb : recB n (sgU n seed idx (digitsOf dg) (4 * n + 5)) idx dg.length = true := by
    unfold recB
    rw [hc0, decide_eq_true (show (dg.length : Int) = n by omega), decide_eq_true (show ((sgU n seed idx (digitsOf dg) (4 * n + 5)).length : Int) = 4 * (n : Int) + 5 by rw [sgU_len]; omega), decide_eq_false hall]; rfl
  refine ⟨by unfold signE; rw [if_pos ⟨hc, by omega⟩], by unfold keyE; rw [if_pos hc], by unfold signL; rw [if_pos ⟨hc, by omega⟩, hd], by unfold recE; rw [if_pos hrb], ?_, ?_⟩
  · unfold recL keyL
    rw [if_pos hrb, if_pos hc, Int.toNat_natCast]
    congr 3
    refine catI_congr _ fun i hi => ?_
    have hdm := digits_mem (a := dg) (by omega) i
    unfold recK endK
    rw [getD_take (by omega) hall, sgU_at _ _ _ _ _ _ hi]
    obtain ⟨d, hd'⟩ : ∃ d : Nat, (digitsOf dg).getD i 0 = d := ⟨((digitsOf dg).getD i 0).toNat, by omega⟩
    rw [hd', Int.toNat_natCast]
    have h3 : 3 = d + (3 - d) := by omega
    rw [show chI (n : Int) idx i 0 (secI n seed idx i) 3 = chI (n : Int) idx i 0 (secI n seed idx i) (d + (3 - d)) by rw [← h3], chI_add, Int.zero_add]
  · unfold keyL
    rw [if_pos hc]
    refine hashT_size n hn _ _ (codeT_ok (by omega) (by omega) fun p hp => ?_)
    simp only [List.mem_cons, List.not_mem_nil, or_false] at hp
    have := catI_len (endK_len n seed idx) (4 * (n : Int).toNat + 5)
    rw [Int.toNat_natCast] at *
    rcases hp with rfl | rfl
    · rw [numI_len]; omega
    · omega

theorem getD_map_range (f : Nat → List Int) (n k : Nat) (h : k < n) : ((List.range n).map f).getD k [] = f k := by
  simp [List.getD_eq_getElem?_getD, h]
/-- On the way up the k-th hash is the k-th level's. -/
theorem climb_level (n : Nat) (seed : List Int) (h ix : Nat) (x : List Int) (hx : x = keyL n seed ix) (hi : ix < 2 ^ h) : ∀ k, k ≤ h → climbI n ix x (pathI n seed h ix h) k = (lvI n seed h k).getD (ix / 2 ^ k) []
  | 0, _ => by
    rw [climbI, lvI, botI, getD_map_range _ _ _ (by simpa using hi), hx]; simp
  | k + 1, hk => by
    have ih := climb_level n seed h ix x hx hi k (by omega)
    have hp : (pathI n seed h ix h).getD k [] = (lvI n seed h k).getD (twin (ix / 2 ^ k)) [] := by
      unfold pathI; rw [getD_map_range _ _ _ (by omega)]
    have hq : ix / 2 ^ (k + 1) = ix / 2 ^ k / 2 := by rw [Nat.pow_succ, Nat.div_div_eq_div_mul]
    have hlt := half_lt_pow hi hk
    rw [climbI, ih, hp, lvI, upI, getD_map_range _ _ _ hlt, hq, upA]
    generalize lvI (n : Int) seed h k = L
    generalize ix / 2 ^ k = P
    by_cases ho : P % 2 = 1
    · rw [if_pos ho, show 2 * (P / 2) + 1 = P by omega, show 2 * (P / 2) = twin P by unfold twin; rw [if_pos ho]; omega]; rfl
    · rw [if_neg ho, show 2 * (P / 2) + 1 = twin P by unfold twin; rw [if_neg ho]; omega, show 2 * (P / 2) = P by omega]; rfl
/-- What was signed is verified, under the root alone. -/
theorem signed_ok (n : Nat) (h1 : 1 ≤ n) (hn : n ≤ 32) (h : Nat) (hh : h ≤ 8) (seed : List Int) (hs : seed.length ≤ 64) (ix : Nat) (hi : ix < 2 ^ h) (dg : List Int) (hd : dg.length = n) (pub : List Int) :
    verB n pub h dg ix (signL n seed ix dg) (pathI n seed h ix h) = decide ((lvI n seed h h).getD 0 [] = pub) := by
  have hi8 : ix < 256 := Nat.lt_of_lt_of_le hi (Nat.le_trans (Nat.pow_le_pow_right (by omega) hh) (by decide))
  obtain ⟨b1, b2, b3, b4, b5, b6⟩ := back_all n h1 hn seed ix dg hs (by omega) (by omega) hd
  have hok : verOk n h ix (signL n seed ix dg) (pathI n seed h ix h) dg.length := by
    refine ⟨by unfold mcanB; exact decide_eq_true (by omega), by omega, ?_, by rw [pathI_len], ?_, by rw [b3]; exact b4⟩
    · rw [Int.toNat_natCast]; have := Int.ofNat_lt.2 hi; simpa using this
    · rintro ⟨p, hp, hne⟩
      simp only [pathI, List.mem_map, List.mem_range] at hp
      obtain ⟨l, hl, rfl⟩ := hp
      refine hne ?_
      rw [lvI_full n seed h h1 hn hs hh l _ (getD_mem (by rw [lvI_len]; exact twin_lt hi hl))]
  unfold verB
  rw [if_pos hok, b3, b5, Int.toNat_natCast, pathI_len, climb_level n seed h ix _ rfl hi h (Nat.le_refl _), Nat.div_eq_of_lt hi]

end Go.Proofs.YtililoojjfcfgaaDoor

namespace Go.Proofs.YtililoojjfcfgaaDoor
open Go.RowKit
set_option linter.unusedVariables false

/-- What stands behind Sign. -/
structure SB (W w : World) (g n h : Nat) (seed : List Int) (dv : Value) (dg : List Int) (cv : Value) (SL : List (List Int)) (pv : Value) (path : List (List Int)) (B : Nat) (ix : Nat) : Prop where
  mm : MK w g n h seed
  hd : Sl w dv (dg.map (Value.int .u8))
  hc : OSls w 0 cv SL
  hp : OSls w 0 pv path
  kB : Blk w B 61 #[.int .i64 ix, cv, pv]
  hw : Below W.heap.size W w
  hg : W.heap.size ≤ g
section
variable {W w w2 : World} {g n h B ix : Nat} {seed dg : List Int} {dv cv pv : Value} {SL path : List (List Int)}
theorem SB.below (s : SB W w g n h seed dv dg cv SL pv path B ix) (hb : Below w.heap.size w w2) : SB W w2 g n h seed dv dg cv SL pv path B ix :=
  ⟨s.mm.below hb, s.hd.below hb (Nat.le_refl _), OSls.below s.hc hb, OSls.below s.hp hb, s.kB.belowS hb, s.hw.trans (hb.mono s.hw.size), s.hg⟩
theorem SB.keys (s : SB W w g n h seed dv dg cv SL pv path B ix) (m : MKB w2 g n h seed) (hg : w.grownBy w2 (some g)) : SB W w2 g n h seed dv dg cv SL pv path B ix := by
  obtain ⟨sv, d, lv, q1, q2, _, kg⟩ := s.mm.blk
  have hnb := keys_noB (n := n) (h := h) (d := d) (m := 0) q1 q2
  have neB : some B ≠ some g := fun e => Blk.ne_ s.kB kg (by decide) (by simpa using e)
  exact ⟨.inl m, s.hd.keepG kg hnb hg, OSls.keepM s.hc kg (by decide) hnb hg, OSls.keepM s.hp kg (by decide) hnb hg, s.kB.grown hg neB, below_of_only s.hw hg s.hg s.hw.size, s.hg⟩
theorem SB.pub (s : SB W w g n h seed dv dg cv SL pv path B ix) (hn0 : 1 ≤ n) (hn : n ≤ 32) (hh : h ≤ 8) (hB : IsB seed) (ht : Tabs W) :
    Calls Tryd.prog 38 #[.pointer (some ⟨g, 0, none⟩)] w fun e w' => ∃ x, e = .returned x ∧ Sl w' x (((lvI n seed h h).getD 0 []).map (Value.int .u8)) ∧ SB W w' g n h seed dv dg cv SL pv path B ix ∧ w.grownBy w' (some g) := by
  refine (public_any n h g seed w hn0 hn hh hB s.mm (ht.below s.hw)).mono ?_
  rintro e w2 ⟨x, rfl, hx, hm, hg⟩
  exact ⟨x, rfl, hx, s.keys hm hg, hg⟩
theorem SB.sig (s : SB W w g n h seed dv dg cv SL pv path B ix) : SigV w (.agg #[.int .i64 ix, cv, pv]) ix SL path := ⟨_, _, rfl, s.hc.sls, s.hp.sls⟩
end

theorem pathI_isB (n : Int) (seed : List Int) (h ix k : Nat) : ∀ p ∈ pathI n seed h ix k, IsB p := by
  intro p hp
  simp only [pathI, List.mem_map] at hp
  obtain ⟨l, _, rfl⟩ := hp
  generalize hL : lvI n seed h l = L
  have := lvI_isB n seed h l
  rw [hL] at this
  rw [List.getD_eq_getElem?_getD]
  rcases Nat.lt_or_ge (twin (ix / 2 ^ l)) L.length with hk | hk
  · rw [List.getElem?_eq_getElem hk]; exact this _ (List.getElem_mem _)
  · rw [List.getElem?_eq_none hk]; intro x hx; cases hx

set_option maxRecDepth 100000 in
set_option maxHeartbeats 4000000 in
theorem mtsBack_walk (size : Int) (v : Value) (seed0 : List Int) (height index : Int) (vb : Value) (b : List Int) (vo : Value) (other : List Int) (w : World) (ht : Tabs w) (hz0 : -9223372036854775808 ≤ size) (hz1 : size ≤ 9223372036854775807) (hB0 : IsB seed0) (hs0 : Sl w v (seed0.map (Value.int .u8))) (hn0 : seed0.length ≤ 140737488351232)
    (hh0 : -9223372036854775808 ≤ height) (hh1 : height ≤ 9223372036854775807) (hx0 : -9223372036854775808 ≤ index) (hx1 : index ≤ 9223372036854775807) (hBb : IsB b) (hsb : Sl w vb (b.map (Value.int .u8))) (hnb : b.length ≤ 140737488351232) (hBo : IsB other) (hso : Sl w vo (other.map (Value.int .u8))) (hno : other.length ≤ 140737488351232) :
    Calls Tryd.prog 12 #[.int .i64 size, v, .int .i64 height, .int .i64 index, vb, vo] w fun e w' => e = .returned (.bool true) ∧ Below w.heap.size w w' := by
  have h1 := u64_rem size 4 (by omega) (by omega)
  generalize hL : wrap64 ((IntKind.u64.wrap size).tmod 4) = L at h1
  obtain ⟨n, rfl⟩ : ∃ n : Nat, L = n := ⟨L.toNat, by omega⟩
  have h2 := u64_rem height 4 (by omega) (by omega)
  generalize hM : wrap64 ((IntKind.u64.wrap height).tmod 4) = M at h2
  obtain ⟨h, rfl⟩ : ∃ m : Nat, M = m := ⟨M.toNat, by omega⟩
  obtain ⟨H, hH⟩ : ∃ H : Nat, H = 2 ^ h := ⟨_, rfl⟩
  have hH1 : 1 ≤ H ∧ H ≤ 8 := by rw [hH]; exact ⟨Nat.one_le_two_pow, Nat.le_trans (Nat.pow_le_pow_right (by omega) (show h ≤ 3 by omega)) (by decide)⟩
  have hWH : ((2 : Int) ^ h) = (H : Int) := by rw [hH]; simp
  have h3 := u64_rem index (H : Int) (by omega) (by omega)
  generalize hX : wrap64 ((IntKind.u64.wrap index).tmod (H : Int)) = X at h3
  obtain ⟨ix, rfl⟩ : ∃ m : Nat, X = m := ⟨X.toNat, by omega⟩
  have HIX := Lib.hid (show ix < 2 ^ h by rw [← hH]; omega)
  have hW' : IntKind.u64.wrap ((2 : Int) ^ h) = (H : Int) := by rw [hWH, IntKind.wrap_u64]; omega
  have HHH := Lib.hid hH
  have HW' := Lib.hid hW'
  clear hH hWH hW'
  have hmk := fun w1 => run_make_bytes (1 + n) (by omega) w1
  rw [show ((1 + n : Nat) : Int) = 1 + (n : Int) by omega] at hmk
  obtain ⟨va, vc, rfl, hvc, hvm⟩ := hs0.shape
  obtain ⟨ba, bc, rfl, hbc, hbm⟩ := hsb.shape
  obtain ⟨oa, on, oc, rfl⟩ := hso.val
  simp only [List.length_map] at *
  have HNB := Lib.hid hnb
  have HTT := Lib.hid ht
  have HSB := Lib.hid hsb
  have HSO := Lib.hid hso
  clear hnb hno ht hsb hso
  have HCUT : ∃ s : Nat, s ≤ 64 ∧ s ≤ seed0.length ∧ (s = 64 ∧ 64 < seed0.length ∨ s = seed0.length ∧ ¬ 64 < seed0.length) := by
    rcases Nat.lt_or_ge 64 seed0.length with q | q
    · exact ⟨64, by omega, by omega, .inl ⟨rfl, q⟩⟩
    · exact ⟨seed0.length, by omega, by omega, .inr ⟨rfl, by omega⟩⟩
  obtain ⟨s, hs64, hsl, hor⟩ := HCUT
  have hs := hs0.take s (by simpa using hsl)
  rw [← List.map_take] at hs
  have hB := hB0.take s
  have hlen : (seed0.take s).length ≤ 64 := by rw [List.length_take]; omega
  have HLEN := Lib.hid hlen
  have HBB := Lib.hid hB
  have HNW := Lib.hid (mnew_ok (1 + n) h (seed0.take s) (.slice va s vc) w (by omega) (by omega) (by omega) hlen hs)
  rw [show ((1 + n : Nat) : Int) = 1 + (n : Int) by omega] at HNW
  have HPL := Lib.hid (padTo_len (1 + n) b)
  have HB1 := Lib.hid (padTo_isB hBb (1 + n))
  generalize seed0.take s = seed at *
  have hcI : (s : Int) ≤ (vc : Int) := by omega
  rcases hor with ⟨rfl, hor⟩ | ⟨rfl, hor⟩
  all_goals
    have horI := Lib.hid hor
    clear hs hs0 hB0 hB hlen
    first | (have h64 : (64 : Int) < (seed0.length : Int) := by omega) | (have h64 : ¬ (64 : Int) < (seed0.length : Int) := by omega)
    clear hor
    go_enter Tryd.func12, Tryd.ntmps12
    go_wp2_with fail
    first | rw [show (min (seed0.length : Int) 64).toNat = 64 by omega] | rw [show (min (seed0.length : Int) 64).toNat = seed0.length by omega]
    refine HNW.out.mono ?_
    rintro e w2 ⟨g, rfl, hg, hk, hb2⟩
    have hb0 : Below w2.heap.size w2 (w2.alloc (.cells (Array.replicate (1 + n) (Value.int .u8 0)) 5)) := (Below.refl _ _).alloc (Nat.le_refl _) _
    have k0 := Blk.new w2 5 (Array.replicate (1 + n) (Value.int .u8 0))
    have hsb1 := (HSB.out.below hb2 (Nat.le_refl _)).below hb0 (Nat.le_refl _)
    go_wp2_with (with_reducible refine wpList_copy_pad rfl _ _ rfl w2.heap.size (1 + n) (1 + n) rfl (.slice ba b.length bc) b rfl hsb1 k0 w2.heap.size w2 hb0 (Nat.le_refl _) ?_)
    intro w3 kk hk1 hb1
    have hd := Sl.ofBlk hk1.out (1 + n) (by rw [List.length_map, HPL.out]) (by rw [List.length_map, HPL.out]; unfold maxLen; omega)
    have hk3 := hk.below hb1
    have hbw := below_trans2 hb2 hb1
    clear hk1 k0 hb0 hsb1 hk hb2 hb1
    have HSG := Lib.hid (msign_ok (1 + n) h g ix seed _ (padTo (1 + n) b) w3 (by omega) (by omega) (by omega) HLEN.out HBB.out hk3 (HTT.out.below hbw) HIX.out HB1.out hd HPL.out)
    have hW := HW'.out
    have hH0 : ¬ (H : Int) = 0 := by omega
    go_wp2_with fail
    clear hW hH0
    refine HSG.out.mono ?_
    rintro e w4 ⟨cv, pv, rfl, hc4, hp4, hm4, hg4⟩
    obtain ⟨sv1, d1, lv1, q1, q2, _, kg⟩ := hk3.blk
    have hd4 := hd.keepG kg (keys_noB q1 q2) hg4
    have hw4 := below_of_only hbw hg4 hg hbw.size
    obtain ⟨ca, cc, rfl⟩ := hc4.val
    obtain ⟨qa, qc, rfl⟩ := hp4.val
    have HVB := Lib.hid (fun pub => signed_ok (1 + n) (by omega) (by omega) h (by omega) seed HLEN.out ix HIX.out (padTo (1 + n) b) HPL.out pub)
    have HSI := Lib.hid (signL_isB ((1 + n : Nat) : Int) seed ix (padTo (1 + n) b))
    have HPI := Lib.hid (pathI_isB ((1 + n : Nat) : Int) seed h ix h)
    have HRB := Lib.hid (show IsB ((lvI ((1 + n : Nat) : Int) seed h h).getD 0 []) from lvI_isB _ _ _ _ _ (getD_mem (by rw [lvI_len]; exact Nat.two_pow_pos _)))
    have hbS : Below w4.heap.size w4 (w4.alloc (.cells #[.int .i64 ix, .slice ca (signL ((1 + n : Nat) : Int) seed ix (padTo (1 + n) b)).length cc, .slice qa (pathI ((1 + n : Nat) : Int) seed h ix h).length qc] 61)) := (Below.refl _ _).alloc (Nat.le_refl _) _
    have kB := Blk.new w4 61 #[.int .i64 ix, .slice ca (signL ((1 + n : Nat) : Int) seed ix (padTo (1 + n) b)).length cc, .slice qa (pathI ((1 + n : Nat) : Int) seed h ix h).length qc]
    have HS := Lib.hid (show SB w (w4.alloc (.cells #[.int .i64 ix, .slice ca (signL ((1 + n : Nat) : Int) seed ix (padTo (1 + n) b)).length cc, .slice qa (pathI ((1 + n : Nat) : Int) seed h ix h).length qc] 61)) g (1 + n) h seed _ (padTo (1 + n) b) _ _ _ _ w4.heap.size ix from ⟨hm4.below hbS, hd4.below hbS (Nat.le_refl _), OSls.below hc4 hbS, OSls.below hp4 hbS, kB, hw4.trans (hbS.mono hw4.size), hg⟩)
    obtain ⟨z0, z1, z2⟩ := rec3 kB
    clear HSG hc4 hp4 hm4 hg4 hd4 hw4 kg hd hbw hk3
    generalize hSLe : signL ((1 + n : Nat) : Int) seed ix (padTo (1 + n) b) = SL at *
    generalize hPTe : pathI ((1 + n : Nat) : Int) seed h ix h = PT at *
    generalize hRTe : (lvI ((1 + n : Nat) : Int) seed h h).getD 0 [] = RT at *
    have HRTe := Lib.hid hRTe
    clear hRTe
    generalize padTo (1 + n) b = dg at *
    clear hSLe hPTe
    go_upto_region 8 with (fail)
    generalize (w4.alloc (.cells #[.int .i64 ix, .slice ca SL.length cc, .slice qa PT.length qc] 61)) = w5 at *
    have hG := Lib.hid (show w5.cell? ⟨w4.heap.size, 0, none⟩ = some (.int .i64 ix) ∧ w5.cell? ⟨w4.heap.size, 1, none⟩ = some (.slice ca SL.length cc) ∧ w5.cell? ⟨w4.heap.size, 2, none⟩ = some (.slice qa PT.length qc) from ⟨z0, z1, z2⟩)
    have HVB1 := HVB.out RT
    have HVB2 := HVB.out other
    rw [decide_eq_true rfl] at HVB1
    have HPUB := Lib.hid (fun w' (q : SB w w' g (1 + n) h seed (.slice (some ⟨w2.heap.size, 0, none⟩) (1 + n) (1 + n)) dg (.slice ca SL.length cc) SL (.slice qa PT.length qc) PT w4.heap.size ix) => q.pub (by omega) (by omega) (by omega) HBB.out HTT.out)
    rw [HRTe.out] at HPUB
    have HV1 := Lib.hid (fun w' (q : SB w w' g (1 + n) h seed (.slice (some ⟨w2.heap.size, 0, none⟩) (1 + n) (1 + n)) dg (.slice ca SL.length cc) SL (.slice qa PT.length qc) PT w4.heap.size ix) x (hx : Sl w' x (RT.map (Value.int .u8))) => verify_any ((1 + n : Nat) : Int) x RT h _ dg _ ix SL PT w' (by omega) (by omega) (by omega) (by omega) HRB.out hx HB1.out q.hd HSI.out HPI.out q.sig (HTT.out.below q.hw))
    have HV2 := Lib.hid (fun w' (q : SB w w' g (1 + n) h seed (.slice (some ⟨w2.heap.size, 0, none⟩) (1 + n) (1 + n)) dg (.slice ca SL.length cc) SL (.slice qa PT.length qc) PT w4.heap.size ix) => verify_any ((1 + n : Nat) : Int) (.slice oa on oc) other h _ dg _ ix SL PT w' (by omega) (by omega) (by omega) (by omega) hBo (HSO.out.below q.hw (Nat.le_refl _)) HB1.out q.hd HSI.out HPI.out q.sig (HTT.out.below q.hw))
    have HEQ := Lib.hid (fun w' (q : SB w w' g (1 + n) h seed (.slice (some ⟨w2.heap.size, 0, none⟩) (1 + n) (1 + n)) dg (.slice ca SL.length cc) SL (.slice qa PT.length qc) PT w4.heap.size ix) x (hx : Sl w' x (RT.map (Value.int .u8))) => bytesEq_any (.slice oa on oc) x other RT w' (HSO.out.below q.hw (Nat.le_refl _)) hx hBo HRB.out)
    rw [HVB1] at HV1
    rw [HVB2] at HV2
    rw [show decide (other = RT) = decide (RT = other) by rw [decide_eq_decide]; exact eq_comm] at HEQ
    rw [show ((1 + n : Nat) : Int) = 1 + (n : Int) by omega] at HV1 HV2
    generalize decide (RT = other) = VV at *
    have hbeq : (VV == VV) = true := beq_self_eq_true VV
    clear z0 z1 z2 kB hbS HVB HVB1 HVB2 HSI HPI HRB HRTe HIX hL hM hX
    go_wp2
    go_region_held3 (fun w' => w'.cell? ⟨w4.heap.size, 0, none⟩ = some (.int .i64 ix) ∧ w'.cell? ⟨w4.heap.size, 1, none⟩ = some (.slice ca SL.length cc) ∧ w'.cell? ⟨w4.heap.size, 2, none⟩ = some (.slice qa PT.length qc)) (exact hG.out) (first | (go_at_call 17; refine (HEQ.out _ hs9 _ hx9).mono ?_; rintro e wq ⟨rfl, rfl⟩) | (go_at_call 38; refine (HPUB.out _ hs8).mono ?_; rintro e w9 ⟨x9, rfl, hx9, hs9, hg9⟩; have hG := Lib.hid (rec3 hs9.kB)) | (go_at_call 49; refine (HV2.out _ hs7).mono ?_; rintro e w8 ⟨rfl, hb8⟩; have hs8 := hs7.below hb8; have hG := Lib.hid (rec3 hs8.kB)) | (go_at_call 49; refine (HV1.out _ hs6 _ hx6).mono ?_; rintro e w7 ⟨rfl, hb7⟩; have hs7 := hs6.below hb7; have hG := Lib.hid (rec3 hs7.kB)) | (go_at_call 38; refine (HPUB.out _ (HS.out.below (by first | exact Below.refl _ _ | exact (Below.refl _ _).drew))).mono ?_; rintro e w6 ⟨x6, rfl, hx6, hs6, hg6⟩; have hG := Lib.hid (rec3 hs6.kB)))
    all_goals
      have hbz := hs9.hw
      go_wp2
      go_ret
      exact ⟨rfl, hbz⟩

end Go.Proofs.YtililoojjfcfgaaDoor
