/- The walks of a search for a text of another length. The walks of Recover, the program's and the reference's. The plain law of the digits, and the walk of the law WotsChecks. The walk of SameTexts: whether two lists of texts are the same. The walk of the law WotsSigns. -/
import Derived.Test.YtililoojjfcfgaaDoorTextA
import Derived.Test.YtililoojjfcfgaaDoorFcA
import Derived.Test.YtililoojjfcfgaaDoorFcB
namespace Go.Proofs.YtililoojjfcfgaaDoor
open Go.RowKit
set_option linter.unusedVariables false

theorem wrOdd_any (v : Value) (bs : List Int) (cs : Nat) (size : Int) (w : World) (hz : Blk w cs 3 #[.int .i64 size]) (hs : Sl w v (bs.map (Value.int .u8))) :
    Calls Tryd.prog 133 #[v, .pointer (some ⟨cs, 0, none⟩)] w fun e w' => e = .returned (.bool (decide (¬ (bs.length : Int) = size))) ∧ w = w' := by
  obtain ⟨a, cap, rfl, hc, hm⟩ := hs.shape
  rw [List.length_map] at *
  have hz0 := hz.cell 0
  obtain ⟨bb, hbb⟩ : ∃ bb, bb = decide (¬ (bs.length : Int) = size) := ⟨_, rfl⟩
  rw [← hbb]
  have HB := Lib.hid hbb
  clear hbb
  go_enter Tryd.func133, Tryd.ntmps133
  go_wp2
  go_ret
  exact ⟨ret_bool (by rw [HB.out]; by_cases h : (bs.length : Int) = size <;> simp [h]), rfl⟩

set_option maxHeartbeats 1000000 in
theorem wrIndex_any (v : Value) (pss : List (List Int)) (cs : Nat) (size : Int) (w : World) (hz : Blk w cs 3 #[.int .i64 size]) (h : Sls w v pss) :
    Calls Tryd.prog 132 #[v, .func (.func 133) #[] #[.pointer (some ⟨cs, 0, none⟩)]] w fun e w' => ∃ r : Int, e = .returned (.int .i64 r) ∧ (0 ≤ r ↔ ∃ p ∈ pss, ¬ (p.length : Int) = size) ∧ w = w' := by
  obtain ⟨a, cap, rfl, hc, hm⟩ := h.shape
  go_enter Tryd.func132, Tryd.ntmps132
  go_wp2
  go_loopw [8] (fun i wr => ∃ k : Nat, k ≤ pss.length ∧ i = .int .i64 k ∧ Hid (∀ j, j < k → ¬ ¬ ((pss.getD j []).length : Int) = size) ∧ w = wr) (fun i _ => pss.length - (intOf i).toNat)
  case atStart => exact ⟨0, by omega, rfl, fun j hj => absurd hj (by omega), rfl⟩
  case round =>
    obtain ⟨k, hk, rfl, hall, rfl⟩ := hrel
    by_cases hlt : k < pss.length
    · obtain ⟨b, off, rfl, hb, u, hu, hs⟩ := h.at hlt
      have hkI : (k : Int) < (pss.length : Int) := by omega
      go_wp2_with fail
      refine (wrOdd_any u _ cs size w hz hs).mono ?_
      by_cases hl : ¬ ((pss.getD k []).length : Int) = size
      · rw [show decide (¬ ((pss.getD k []).length : Int) = size) = true by simpa using hl]
        rintro e w1 ⟨rfl, rfl⟩
        have HL := Lib.hid hl
        clear hl hs hu
        go_wp2
        go_ret
        refine ⟨_, rfl, ⟨fun _ => ⟨pss[k], List.getElem_mem hlt, ?_⟩, fun _ => by omega⟩, rfl⟩
        have := HL.out
        rwa [List.getD_eq_getElem?_getD, List.getElem?_eq_getElem hlt] at this
      · rw [show decide (¬ ((pss.getD k []).length : Int) = size) = false by simpa using hl]
        rintro e w1 ⟨rfl, rfl⟩
        have HL := Lib.hid hl
        clear hl hs hu
        go_wp2
        go_roundw
        case rel =>
          refine ⟨k + 1, by omega, by go_num, fun j hj => ?_, by first | rfl | trivial⟩
          rcases Nat.lt_or_ge j k with h | h
          · exact hall.out j h
          · obtain rfl : j = k := by omega
            exact HL.out
        case measure => simp [intOf]; omega
    · have hkI : ¬ (k : Int) < (pss.length : Int) := by omega
      go_wp2
      go_ret
      refine ⟨_, rfl, ⟨fun h0 => absurd h0 (by decide), fun ⟨p, hp, hl⟩ => ?_⟩, rfl⟩
      obtain ⟨j, hj, rfl⟩ := List.mem_iff_getElem.1 hp
      have := hall.out j (by omega)
      rw [List.getD_eq_getElem?_getD, List.getElem?_eq_getElem hj] at this
      exact absurd hl this

theorem wrContains_any (v : Value) (pss : List (List Int)) (cs : Nat) (size : Int) (w : World) (hz : Blk w cs 3 #[.int .i64 size]) (h : Sls w v pss) :
    Calls Tryd.prog 93 #[v, .func (.func 133) #[] #[.pointer (some ⟨cs, 0, none⟩)]] w fun e w' => e = .returned (.bool (decide (∃ p ∈ pss, ¬ (p.length : Int) = size))) ∧ w = w' := by
  have hi := Lib.hid (wrIndex_any v pss cs size w hz h)
  go_enter Tryd.func93, Tryd.ntmps93
  go_wp2_with fail
  refine hi.out.mono ?_
  rintro e w1 ⟨r, rfl, hr, rfl⟩
  have HR := Lib.hid hr
  clear hr
  go_wp2
  go_ret
  exact ⟨ret_bool (by rw [decide_eq_decide]; exact HR.out), rfl⟩


end Go.Proofs.YtililoojjfcfgaaDoor

namespace Go.Proofs.YtililoojjfcfgaaDoor
open Go.RowKit
set_option linter.unusedVariables false

/-- Whether Recover takes what it is given. -/
def recB (size : Int) (l : List (List Int)) (idx : Int) (m : Nat) : Bool := canB size 0 idx && (decide ((m : Int) = size) && (decide ((l.length : Int) = 4 * size + 5) && !decide (∃ p ∈ l, ¬ (p.length : Int) = size)))
def recK (size : Int) (l : List (List Int)) (idx : Int) (dd : List Int) (i : Nat) : List Int := chI size idx i (dd.getD i 0) ((l.getD i []).take 32) (3 - (dd.getD i 0).toNat)
def recE (size : Int) (l : List (List Int)) (idx : Int) (m : Nat) : Int := if recB size l idx m = true then 0 else 1
def recL (size : Int) (l : List (List Int)) (idx : Int) (dg : List Int) : List Int := if recB size l idx dg.length = true then hashT size 8 [numI idx, catI (recK size l idx (digitsOf dg)) (4 * size.toNat + 5)] else []
theorem recL_isB (size : Int) (l : List (List Int)) (idx : Int) (dg : List Int) : IsB (recL size l idx dg) := by
  unfold recL; split
  · exact hashT_isB' _ _ _
  · intro x hx; cases hx
theorem getD_isB {l : List (List Int)} (h : ∀ p ∈ l, IsB p) (i : Nat) : IsB (l.getD i []) := by
  rw [List.getD_eq_getElem?_getD]
  rcases Nat.lt_or_ge i l.length with hi | hi
  · rw [List.getElem?_eq_getElem hi]; exact h _ (List.getElem_mem hi)
  · rw [List.getElem?_eq_none hi]; intro x hx; cases hx
theorem recK_isB (size : Int) (l : List (List Int)) (idx : Int) (dd : List Int) (h : ∀ p ∈ l, IsB p) (i : Nat) : IsB (recK size l idx dd i) := chI_isB _ _ _ _ _ ((getD_isB h i).take 32) _
theorem recK_len (size : Int) (l : List (List Int)) (idx : Int) (dd : List Int) (i : Nat) : (recK size l idx dd i).length ≤ 32 := by
  have := chI_len size idx i (dd.getD i 0) ((l.getD i []).take 32) (3 - (dd.getD i 0).toNat)
  rw [List.length_take] at this
  unfold recK; omega
theorem getD_take {l : List (List Int)} {size : Int} (h1 : size ≤ 32) (h : ¬ ∃ p ∈ l, ¬ (p.length : Int) = size) (i : Nat) : (l.getD i []).take 32 = l.getD i [] := by
  rw [List.getD_eq_getElem?_getD]
  rcases Nat.lt_or_ge i l.length with hi | hi
  · rw [List.getElem?_eq_getElem hi]
    refine List.take_of_length_le ?_
    have : (l[i].length : Int) = size := by
      rcases Decidable.em ((l[i].length : Int) = size) with h0 | h0
      · exact h0
      · exact absurd ⟨_, List.getElem_mem hi, h0⟩ h
    simp only [Option.getD_some]; omega
  · rw [List.getElem?_eq_none hi]; rfl

set_option maxRecDepth 100000 in
set_option maxHeartbeats 1000000 in
theorem endRec_any (c1 c2 c3 c4 : Nat) (n : Nat) (hn : n ≤ 100) (idx : Int) (hx0 : -9223372036854775808 ≤ idx) (hx1 : idx ≤ 9223372036854775807) (f : Nat → List Int) (hf : ∀ i, IsB (f i)) (hfl : ∀ i, (f i).length ≤ 32) (I : World → Prop) (hI : ∀ w w', I w → Below w.heap.size w w' → I w')
    (hK : ∀ (i : Nat) (w : World), i < 4 * n + 5 → I w → Calls Tryd.prog 136 #[.int .i64 i, .pointer (some ⟨c1, 0, none⟩), .pointer (some ⟨c2, 0, none⟩), .pointer (some ⟨c3, 0, none⟩), .pointer (some ⟨c4, 0, none⟩)] w fun e w' => ∃ x, e = .returned x ∧ Sl w' x ((f i).map (Value.int .u8)) ∧ Below w.heap.size w w') (w : World) (hIw : I w) (ht : Tabs w) :
    Calls Tryd.prog 135 #[.int .i64 n, .int .i64 idx, .func (.func 136) #[] #[.pointer (some ⟨c1, 0, none⟩), .pointer (some ⟨c2, 0, none⟩), .pointer (some ⟨c3, 0, none⟩), .pointer (some ⟨c4, 0, none⟩)]] w fun e w' => ∃ x, e = .returned x ∧ Sl w' x ((hashT n 8 [numI idx, catI f (4 * n + 5)]).map (Value.int .u8)) ∧ Below w.heap.size w w' := by
  obtain ⟨i0, hi, hz0, hz1, hz2⟩ := info_parts info8c
  have HFL := Lib.hid (catI_len hfl)
  have HF1 := Lib.hid hfl
  clear hfl
  go_enter Tryd.func135, Tryd.ntmps135
  go_wp2_with fail
  refine (chains_any n w (by omega)).mono ?_
  rintro e w1 ⟨rfl, rfl⟩
  go_wp2
  go_loopw [7, 11] (fun l i wr => ∃ (k : Nat) (lv : Value), lv = l ∧ k ≤ 4 * n + 5 ∧ i = .int .i64 k ∧ wr.ownsRow w.heap.size 5 1 lv (catI f k).length ((catI f k).map (Value.int .u8)) ∧ Below w.heap.size w wr) (fun _ i _ => 4 * n + 5 - (intOf i).toNat)
  case atStart => exact ⟨0, _, rfl, by omega, rfl, World.ownsRow_nil _ _ _ _, Below.refl _ _⟩
  case round =>
    obtain ⟨k, l, rfl, hk, rfl, hown, hbr⟩ := hrel
    by_cases hlt : k < 4 * n + 5
    · have hkI : (k : Int) < ((4 * n + 5 : Nat) : Int) := by omega
      have HLN := Lib.hid (show (catI f k).length + (f k).length ≤ 100000 by have := HFL.out k; have := HF1.out k; omega)
      go_wp2_with fail
      refine (hK k wr hlt (hI _ _ hIw hbr)).mono ?_
      rintro e w2 ⟨x, rfl, hx, hb2⟩
      have hown := ownsRow_below hown hb2 (Nat.le_refl _)
      have hbr := hbr.trans (hb2.mono hbr.size)
      clear hb2
      obtain ⟨xa, xn, xc, rfl⟩ := hx.val
      go_wp2_with (at_builtin; refine wpList_append_sl rfl _ _ 22 rfl w.heap.size 5 i0 (.int .u8 0) 1 Tryd.underlying22 hi hz0 hz1 hz2 rfl _ _ _ rfl hown (.slice xa xn xc) ((f k).map (Value.int .u8)) rfl hx (one8 _) (by have := HLN.out; rw [List.length_map]; unfold maxLen; omega) (by have := HLN.out; rw [List.length_map]; omega) hbr.size ?_)
      intro v3 w3 hown3 hg3
      have hb3 := below_grown hbr hown (Nat.le_refl _) hbr.size hg3
      clear hg3 hown hx hbr
      go_wp2
      go_roundw
      case rel => exact ⟨k + 1, v3, rfl, by omega, by go_num, by simpa [catI] using hown3, hb3⟩
      case measure => simp [intOf]; omega
    · obtain rfl : k = 4 * n + 5 := by omega
      have hkI : ¬ ((4 * n + 5 : Nat) : Int) < ((4 * n + 5 : Nat) : Int) := by omega
      have hs := Sl.of_owns hown
      have hCB := catI_isB hf (4 * n + 5)
      have htr := ht.below hbr
      obtain ⟨C, hC⟩ : ∃ C, C = catI f (4 * n + 5) := ⟨_, rfl⟩
      rw [← hC] at hs hCB
      have HCe := Lib.hid hC
      clear hC
      obtain ⟨va, vn, vc, rfl⟩ := hs.val
      clear hown hIw hK hI hf
      go_wp2_with fail
      refine (number_any idx wr hx0 hx1).mono ?_
      rintro e w2 ⟨n1, rfl, hn1, hb2⟩
      have hs := hs.below hb2 (Nat.le_refl _)
      have htr := htr.below hb2
      have hbr := hbr.trans (hb2.mono hbr.size)
      obtain ⟨a1, m1, d1, rfl⟩ := hn1.val
      have hL := Sls.litA _ 22 (show SlAll w2 [.slice a1 m1 d1, .slice va vn vc] [numI idx, C] from ⟨hn1, hs, trivial⟩) (by simp [maxLen])
      have hb0 : Below w2.heap.size w2 (w2.alloc (.cells #[.slice a1 m1 d1, .slice va vn vc] 22)) := (Below.refl _ _).alloc (Nat.le_refl _) _
      have hbA := hbr.trans (hb0.mono hbr.size)
      have htA := htr.below hb0
      have HH := Lib.hid (hash_any n 8 _ _ _ (by simp) (by decide) (by decide) hL (fun p hp => by
        simp only [List.mem_cons, List.not_mem_nil, or_false] at hp
        rcases hp with rfl | rfl
        · exact numI_isB _
        · exact hCB) htA)
      clear hL hs hn1 hb2 hb0 htA htr hCB hbr
      go_wp2_with fail
      refine HH.out.mono ?_
      rintro e w5 ⟨y, rfl, hy, hb5⟩
      have hbr := hbA.trans (hb5.mono hbA.size)
      go_wp2
      go_ret
      exact ⟨_, rfl, by rw [← HCe.out]; exact hy, hbr⟩


set_option maxRecDepth 100000 in
set_option maxHeartbeats 1000000 in
theorem rec2_any (size : Int) (lv : Value) (l : List (List Int)) (idx : Int) (dv : Value) (dd : List Int) (i : Nat) (c1 c2 c3 c4 : Nat) (w : World) (hx0 : -9223372036854775808 ≤ idx) (hx1 : idx ≤ 9223372036854775807) (hi : i < l.length) (hi2 : i ≤ 1000) (hd : i < dd.length) (hdm : 0 ≤ dd.getD i 0 ∧ dd.getD i 0 ≤ 3)
    (k1 : Blk w c1 3 #[.int .i64 size]) (k2 : Blk w c2 23 #[lv]) (k3 : Blk w c3 3 #[.int .i64 idx]) (k4 : Blk w c4 35 #[dv]) (hB : ∀ p ∈ l, IsB p) (hs : Sls w lv l) (hds : Sl w dv (dd.map (Value.int .i64))) (hsz : size ≤ 32) (hno : ¬ ∃ p ∈ l, ¬ (p.length : Int) = size) (ht : Tabs w) :
    Calls Tryd.prog 136 #[.int .i64 i, .pointer (some ⟨c1, 0, none⟩), .pointer (some ⟨c2, 0, none⟩), .pointer (some ⟨c3, 0, none⟩), .pointer (some ⟨c4, 0, none⟩)] w fun e w' => ∃ x, e = .returned x ∧ Sl w' x ((recK size l idx dd i).map (Value.int .u8)) ∧ Below w.heap.size w w' := by
  obtain ⟨la, lc, rfl, hlc, hlm⟩ := hs.shape
  obtain ⟨xa, xc, rfl, hxc, hxm⟩ := hds.shape
  obtain ⟨b, off, rfl, hb, u, hu, hsu⟩ := hs.at hi
  obtain ⟨bd, offd, rfl, hbd, hdc⟩ := hds.ints hd
  have hdi := hdc i hd
  have HD := Lib.hid (show recK size l idx dd i = chI size idx i (dd.getD i 0) (l.getD i []) (3 - (dd.getD i 0).toNat) by unfold recK; rw [getD_take hsz hno])
  have hlen : (l.getD i []).length ≤ 32 := by
    have := getD_take hsz hno i
    rw [← this, List.length_take]; omega
  have hPB := getD_isB hB i
  generalize l.getD i [] = P at *
  generalize dd.getD i 0 = D at *
  obtain ⟨d, rfl⟩ : ∃ d : Nat, D = d := ⟨D.toNat, by omega⟩
  rw [Int.toNat_natCast] at HD
  rw [List.length_map] at *
  have hiI : (i : Int) < (l.length : Int) := by omega
  have hdI : (i : Int) < (dd.length : Int) := by omega
  have q1 : w.cell? ⟨c1, 0, none⟩ = some (.int .i64 size) := k1.cell 0
  have q2 : w.cell? ⟨c2, 0, none⟩ = some (.slice (some ⟨b, off, none⟩) l.length lc) := k2.cell 0
  have q3 : w.cell? ⟨c3, 0, none⟩ = some (.int .i64 idx) := k3.cell 0
  have q4 : w.cell? ⟨c4, 0, none⟩ = some (.slice (some ⟨bd, offd, none⟩) dd.length xc) := k4.cell 0
  have HC := Lib.hid (chain3_any size u P idx i d w.drew hx0 hx1 (by omega) (by omega) (by omega) (by omega) hPB hsu (ht.below (Below.refl _ _).drew))
  rw [← HD.out] at HC
  clear k1 k2 k3 k4 hs hds hdc hsu ht hno hPB
  go_enter Tryd.func136, Tryd.ntmps136
  go_wp2
  go_still_tail 11, (by kernel_rfl)
  change wpList _ _ _ _ _ w.drew
  go_wp2_with fail
  refine HC.out.mono ?_
  rintro e w2 ⟨x, rfl, hx, hb2⟩
  have hb2 : Below w.heap.size w w2 := ⟨hb2.os, hb2.tape, hb2.output, hb2.size, hb2.block⟩
  go_wp2
  go_ret
  exact ⟨_, rfl, hx, hb2⟩


set_option maxRecDepth 100000 in
set_option maxHeartbeats 2000000 in
theorem recover_any (size : Int) (lv : Value) (l : List (List Int)) (idx : Int) (vd : Value) (dg : List Int) (w : World) (hz0 : -9223372036854775808 ≤ size) (hz1 : size ≤ 9223372036854775807) (hx0 : -9223372036854775808 ≤ idx) (hx1 : idx ≤ 9223372036854775807)
    (hB : ∀ p ∈ l, IsB p) (hs : Sls w lv l) (hBd : IsB dg) (hsd : Sl w vd (dg.map (Value.int .u8))) (ht : Tabs w) :
    Calls Tryd.prog 94 #[.int .i64 size, lv, .int .i64 idx, vd] w fun e w' => ∃ x, e = .returned (.tuple #[x, .int .i64 (recE size l idx dg.length)]) ∧ Sl w' x ((recL size l idx dg).map (Value.int .u8)) ∧ Below w.heap.size w w' := by
  obtain ⟨la, lc, rfl, hlc, hlm⟩ := hs.shape
  obtain ⟨da, dc, rfl, hdc, hdm⟩ := hsd.shape
  rw [List.length_map] at *
  have hb3 : Below w.heap.size w (((w.alloc (.cells #[.int .i64 size] 3)).alloc (.cells #[.slice la l.length lc] 23)).alloc (.cells #[.int .i64 idx] 3)) := (((Below.refl _ _).alloc (Nat.le_refl _) _).alloc (by simp) _).alloc (by simp; omega) _
  have k1 : Blk (((w.alloc (.cells #[.int .i64 size] 3)).alloc (.cells #[.slice la l.length lc] 23)).alloc (.cells #[.int .i64 idx] 3)) w.heap.size 3 #[.int .i64 size] := ((Blk.new w _ _).alloc _).alloc _
  have k2 : Blk (((w.alloc (.cells #[.int .i64 size] 3)).alloc (.cells #[.slice la l.length lc] 23)).alloc (.cells #[.int .i64 idx] 3)) (w.heap.size + 1) 23 #[.slice la l.length lc] := by
    have := (Blk.new (w.alloc (.cells #[.int .i64 size] 3)) 23 #[.slice la l.length lc]).alloc (.cells #[.int .i64 idx] 3)
    simpa using this
  have k3 : Blk (((w.alloc (.cells #[.int .i64 size] 3)).alloc (.cells #[.slice la l.length lc] 23)).alloc (.cells #[.int .i64 idx] 3)) (w.heap.size + 1 + 1) 3 #[.int .i64 idx] := by
    have := Blk.new ((w.alloc (.cells #[.int .i64 size] 3)).alloc (.cells #[.slice la l.length lc] 23)) 3 #[.int .i64 idx]
    simpa using this
  have hs3 := hs.below hb3 (Nat.le_refl _)
  have hsd3 := hsd.below hb3 (Nat.le_refl _)
  have ht3 := ht.below hb3
  have hsz3 : w.heap.size + 1 + 1 < (((w.alloc (.cells #[.int .i64 size] 3)).alloc (.cells #[.slice la l.length lc] 23)).alloc (.cells #[.int .i64 idx] 3)).heap.size := k3.lt
  have HE := Lib.hid (show recE size l idx dg.length = if recB size l idx dg.length = true then 0 else 1 from rfl)
  have HL := Lib.hid (show recL size l idx dg = if recB size l idx dg.length = true then hashT size 8 [numI idx, catI (recK size l idx (digitsOf dg)) (4 * size.toNat + 5)] else [] from rfl)
  have HRB := Lib.hid (show recB size l idx dg.length = (canB size 0 idx && (decide ((dg.length : Int) = size) && (decide ((l.length : Int) = 4 * size + 5) && !decide (∃ p ∈ l, ¬ (p.length : Int) = size)))) from rfl)
  generalize hw3 : (((w.alloc (.cells #[.int .i64 size] 3)).alloc (.cells #[.slice la l.length lc] 23)).alloc (.cells #[.int .i64 idx] 3)) = w3 at *
  have HW3 := Lib.hid hw3
  have q1 : w3.cell? ⟨w.heap.size, 0, none⟩ = some (.int .i64 size) := k1.cell 0
  have q2 : w3.cell? ⟨w.heap.size + 1, 0, none⟩ = some (.slice la l.length lc) := k2.cell 0
  have q3 : w3.cell? ⟨w.heap.size + 1 + 1, 0, none⟩ = some (.int .i64 idx) := k3.cell 0
  have HQ1 := Lib.hid (fun n => can_any size (.slice none 0 0) [] idx (w3.drewN n) (Sl.nil _))
  rw [show ([] : List Int).length = 0 from rfl] at HQ1
  have HQ3 := Lib.hid (fun n => wrContains_any (.slice la l.length lc) l w.heap.size size (w3.drewN n) (k1.drewN n) hs3)
  clear hs hsd ht
  by_cases hcb : canB size 0 idx = true
  · have hcI : 1 ≤ size ∧ size ≤ 32 := by unfold canB at hcb; have := of_decide_eq_true hcb; omega
    rw [hcb] at HQ1 HRB
    clear hcb
    obtain ⟨n, rfl⟩ : ∃ n : Nat, size = n := ⟨size.toNat, by omega⟩
    have HQ2 := Lib.hid (fun m => chains_any n (w3.drewN m) (by omega))
    by_cases hm : (dg.length : Int) = (n : Int)
    · obtain rfl : dg.length = n := by omega
      clear hm
      by_cases hl : (l.length : Int) = 4 * (dg.length : Int) + 5
      · have f1 : ((l.length : Int) != 4 * (dg.length : Int) + 5) = false := by simpa using hl
        have f2 : ((l.length : Int) != ((4 * dg.length + 5 : Nat) : Int)) = false := by simpa using hl
        by_cases hp : ∃ p ∈ l, ¬ (p.length : Int) = (dg.length : Int)
        · rw [decide_eq_true hp] at HRB HQ3
          clear hp hl
          rw [show recB dg.length l idx dg.length = false by rw [HRB.out]; simp] at HE HL
          rw [if_neg (by decide)] at HE HL
          rw [HE.out]
          go_enter Tryd.func94, Tryd.ntmps94
          go_wp2
          go_quiet ((first | (go_at_call 121; exact quiet_left (HQ1.out _)) | (go_at_call 134; exact quiet_left (HQ2.out _)) | (go_at_call 93; exact quiet_left (HQ3.out _)) | (go_at_call 134; exact quiet_add_left (HQ2.out _)) | (go_at_call 93; exact quiet_add_left (HQ3.out _))))
          go_wp2
          go_ret2
          exact ⟨_, rfl, by rw [HL.out]; exact Sl.nil _, below_drewN0 hb3 _⟩
        · have hno := hp
          rw [decide_eq_false hp] at HRB HQ3
          rw [show recB dg.length l idx dg.length = true by rw [HRB.out]; simp [hl]] at HE HL
          rw [if_pos rfl] at HE HL
          rw [HE.out]
          rw [Int.toNat_natCast] at HL
          have HNO := Lib.hid hno
          have HLL := Lib.hid (show l.length = 4 * dg.length + 5 by omega)
          have hl32 : dg.length ≤ 32 := by omega
          clear hp hl hno
          go_enter Tryd.func94, Tryd.ntmps94
          go_wp2
          go_quiet ((first | (go_at_call 121; exact quiet_left (HQ1.out _)) | (go_at_call 134; exact quiet_left (HQ2.out _)) | (go_at_call 93; exact quiet_left (HQ3.out _)) | (go_at_call 134; exact quiet_add_left (HQ2.out _)) | (go_at_call 93; exact quiet_add_left (HQ3.out _))))
          go_wp2_with fail
          have hsd4 := hsd3.below (below_drewN0 (Below.refl w3.heap.size w3) nq) (Nat.le_refl _)
          refine (digits_short dg (.slice da dg.length dc) hBd hl32 _ hsd4).mono ?_
          rintro e w5 ⟨v1, rfl, hd1, hb5⟩
          have hb5 : Below w3.heap.size w3 w5 := (below_drewN0 (Below.refl w3.heap.size w3) nq).trans hb5
          obtain ⟨xa, xc, rfl, _, _⟩ := hd1.shape
          have k1 := k1.belowS hb5
          have k2 := k2.belowS hb5
          have k3 := k3.belowS hb5
          have hs5 := hs3.below hb5 (Nat.le_refl _)
          have ht5 := ht3.below hb5
          have hsz5 : w.heap.size + 1 + 1 < w5.heap.size := Nat.lt_of_lt_of_le hsz3 hb5.size
          have hb5 := hb3.trans (hb5.mono hb3.size)
          clear q1 q2 q3 hs3 ht3 hb3 hsd4
          have hdl := digits_len dg hl32
          have hdm := fun j => digits_mem (a := dg) hl32 j
          rw [List.length_map, hdl]
          rw [List.length_map, hdl] at hd1
          have HDL := Lib.hid hdl
          have HDM := Lib.hid hdm
          clear hdl hdm
          generalize digitsOf dg = DD at *
          have hb6 : Below w5.heap.size w5 (w5.alloc (.cells #[.slice xa (4 * dg.length + 5) xc] 35)) := (Below.refl _ _).alloc (Nat.le_refl _) _
          have k4 := Blk.new w5 35 #[.slice xa (4 * dg.length + 5) xc]
          have k1 := k1.belowS hb6
          have k2 := k2.belowS hb6
          have k3 := k3.belowS hb6
          have hs6 := hs5.below hb6 (Nat.le_refl _)
          have hd6 := hd1.below hb6 (Nat.le_refl _)
          have ht6 := ht5.below hb6
          have q1 : (w5.alloc (.cells #[.slice xa (4 * dg.length + 5) xc] 35)).cell? ⟨w.heap.size, 0, none⟩ = some (.int .i64 dg.length) := k1.cell 0
          have q3 : (w5.alloc (.cells #[.slice xa (4 * dg.length + 5) xc] 35)).cell? ⟨w.heap.size + 1 + 1, 0, none⟩ = some (.int .i64 idx) := k3.cell 0
          go_wp2_with fail
          generalize (w5.alloc (.cells #[.slice xa (4 * dg.length + 5) xc] 35)) = w6 at *
          refine (endRec_any w.heap.size (w.heap.size + 1) (w.heap.size + 1 + 1) w5.heap.size dg.length (by omega) idx hx0 hx1 (recK dg.length l idx DD) (recK_isB _ _ _ _ hB) (recK_len _ _ _ _) (fun wx => Below w6.heap.size w6 wx) (fun wx wy h1 h2 => below_trans2 h1 h2) ?hK w6 (Below.refl _ _) ht6).mono ?_
          case hK =>
            intro i wx hi hbx
            exact rec2_any dg.length (.slice la l.length lc) l idx (.slice xa (4 * dg.length + 5) xc) DD i _ _ _ _ wx hx0 hx1 (by have := HLL.out; omega) (by omega) (by rw [HDL.out]; exact hi) (HDM.out i) (k1.belowS hbx) (k2.belowS hbx) (k3.belowS hbx) (k4.belowS hbx) hB (hs6.below hbx (Nat.le_refl _)) (hd6.below hbx (Nat.le_refl _)) (by omega) HNO.out (ht6.below hbx)
          rintro e w7 ⟨x, rfl, hx, hb7⟩
          have hb7 := (hb5.trans (hb6.mono hb5.size)).trans (hb7.mono (Nat.le_trans hb5.size hb6.size))
          clear k1 k2 k3 k4 q1 q3 hs5 hs6 hd6 hd1 hb6 hb5
          go_wp2
          go_ret2
          exact ⟨_, rfl, by rw [HL.out]; exact hx, hb7⟩
      · have f1 : ((l.length : Int) != 4 * (dg.length : Int) + 5) = true := by simpa using hl
        have f2 : ((l.length : Int) != ((4 * dg.length + 5 : Nat) : Int)) = true := by simpa using hl
        rw [show recB dg.length l idx dg.length = false by rw [HRB.out]; simp [hl]] at HE HL
        rw [if_neg (by decide)] at HE HL
        rw [HE.out]
        clear hl
        go_enter Tryd.func94, Tryd.ntmps94
        go_wp2
        go_quiet ((first | (go_at_call 121; exact quiet_left (HQ1.out _)) | (go_at_call 134; exact quiet_left (HQ2.out _)) | (go_at_call 93; exact quiet_left (HQ3.out _)) | (go_at_call 134; exact quiet_add_left (HQ2.out _)) | (go_at_call 93; exact quiet_add_left (HQ3.out _))))
        go_wp2
        go_ret2
        exact ⟨_, rfl, by rw [HL.out]; exact Sl.nil _, below_drewN0 hb3 _⟩
    · have f1 : ((dg.length : Int) != (n : Int)) = true := by simpa using hm
      rw [show recB n l idx dg.length = false by rw [HRB.out]; simp [hm]] at HE HL
      rw [if_neg (by decide)] at HE HL
      rw [HE.out]
      go_enter Tryd.func94, Tryd.ntmps94
      go_wp2
      go_quiet ((first | (go_at_call 121; exact quiet_left (HQ1.out _)) | (go_at_call 134; exact quiet_left (HQ2.out _)) | (go_at_call 93; exact quiet_left (HQ3.out _)) | (go_at_call 134; exact quiet_add_left (HQ2.out _)) | (go_at_call 93; exact quiet_add_left (HQ3.out _))))
      go_wp2
      go_ret2
      exact ⟨_, rfl, by rw [HL.out]; exact Sl.nil _, below_drewN0 hb3 _⟩
  · rw [Bool.not_eq_true] at hcb
    rw [hcb] at HQ1 HRB
    rw [show recB size l idx dg.length = false by rw [HRB.out]; simp] at HE HL
    rw [if_neg (by decide)] at HE HL
    rw [HE.out]
    have HQ2 : Hid (∀ m : Nat, True) := fun _ => trivial
    clear hcb
    go_enter Tryd.func94, Tryd.ntmps94
    go_wp2
    go_quiet ((first | (go_at_call 121; exact quiet_left (HQ1.out _)) | (go_at_call 134; exact quiet_left (HQ2.out _)) | (go_at_call 93; exact quiet_left (HQ3.out _)) | (go_at_call 134; exact quiet_add_left (HQ2.out _)) | (go_at_call 93; exact quiet_add_left (HQ3.out _))))
    go_wp2
    go_ret2
    exact ⟨_, rfl, by rw [HL.out]; exact Sl.nil _, below_drewN0 hb3 _⟩

set_option maxRecDepth 100000 in
set_option maxHeartbeats 2000000 in
theorem refRecover_any (size : Int) (lv : Value) (l : List (List Int)) (idx : Int) (vd : Value) (dg : List Int) (w : World) (hz0 : -9223372036854775808 ≤ size) (hz1 : size ≤ 9223372036854775807) (hx0 : -9223372036854775808 ≤ idx) (hx1 : idx ≤ 9223372036854775807)
    (hB : ∀ p ∈ l, IsB p) (hs : Sls w lv l) (hBd : IsB dg) (hsd : Sl w vd (dg.map (Value.int .u8))) :
    Calls Tryd.prog 96 #[.int .i64 size, lv, .int .i64 idx, vd] w fun e w' => ∃ x, e = .returned (.tuple #[x, .int .i64 (recE size l idx dg.length)]) ∧ Sl w' x ((recL size l idx dg).map (Value.int .u8)) ∧ Below w.heap.size w w' := by
  obtain ⟨la, lc, rfl, hlc, hlm⟩ := hs.shape
  obtain ⟨da, dc, rfl, hdc, hdm⟩ := hsd.shape
  obtain ⟨i0, hi, hz0', hz1', hz2'⟩ := info_parts info8c
  rw [List.length_map] at *
  have HE := Lib.hid (show recE size l idx dg.length = if recB size l idx dg.length = true then 0 else 1 from rfl)
  have HL := Lib.hid (show recL size l idx dg = if recB size l idx dg.length = true then hashT size 8 [numI idx, catI (recK size l idx (digitsOf dg)) (4 * size.toNat + 5)] else [] from rfl)
  have HRB := Lib.hid (show recB size l idx dg.length = (canB size 0 idx && (decide ((dg.length : Int) = size) && (decide ((l.length : Int) = 4 * size + 5) && !decide (∃ p ∈ l, ¬ (p.length : Int) = size)))) from rfl)
  have HQ1 := Lib.hid (refCan_any size (.slice none 0 0) [] idx w (Sl.nil _))
  rw [show ([] : List Int).length = 0 from rfl] at HQ1
  by_cases hcb : canB size 0 idx = true
  · have hcI : 1 ≤ size ∧ size ≤ 32 := by unfold canB at hcb; have := of_decide_eq_true hcb; omega
    rw [hcb] at HQ1 HRB
    clear hcb
    obtain ⟨n, rfl⟩ : ∃ n : Nat, size = n := ⟨size.toNat, by omega⟩
    by_cases hm : (dg.length : Int) = (n : Int)
    · obtain rfl : dg.length = n := by omega
      clear hm
      by_cases hl : (l.length : Int) = 4 * (dg.length : Int) + 5
      · have f1 : ((l.length : Int) != 4 * (dg.length : Int) + 5) = false := by simpa using hl
        have HLL := Lib.hid (show l.length = 4 * dg.length + 5 by omega)
        rw [decide_eq_true hl] at HRB
        have hl32 : dg.length ≤ 32 := by omega
        have HDG := Lib.hid (refDigits_short dg (.slice da dg.length dc) hBd hl32 w hsd)
        have HDL := Lib.hid (digits_len dg hl32)
        have HDM := Lib.hid (fun j => digits_mem (a := dg) hl32 j)
        have HCB := Lib.hid (fun dd => recK_isB (dg.length : Int) l idx dd hB)
        have HCL := Lib.hid (fun dd => catI_len (recK_len (dg.length : Int) l idx dd))
        have HCL1 := Lib.hid (recK_len (dg.length : Int) l idx)
        have HBB := Lib.hid (getD_isB hB)
        generalize digitsOf dg = DD at *
        clear hl hB
        go_enter Tryd.func96, Tryd.ntmps96
        go_wp2_with fail
        refine HQ1.out.mono ?_
        rintro e w1 ⟨rfl, rfl⟩
        go_wp2_with fail
        refine HDG.out.mono ?_
        rintro e w1 ⟨v1, rfl, hd1, hb1⟩
        obtain ⟨xa, xc, rfl, _, _⟩ := hd1.shape
        rw [List.length_map, HDL.out]
        rw [List.length_map, HDL.out] at hd1
        have hs := hs.below hb1 (Nat.le_refl _)
        have hb1s := hb1.size
        clear HDG hsd HQ1
        go_wp2
        go_loopw [10, 36] (fun ends i wr => ∃ (k : Nat) (ev : Value), ev = ends ∧ k ≤ l.length ∧ i = .int .i64 k ∧ Hid (∀ j, j < k → ((l.getD j []).length : Int) = (dg.length : Int)) ∧ wr.ownsRow w1.heap.size 5 1 ev (catI (recK dg.length l idx DD) k).length ((catI (recK dg.length l idx DD) k).map (Value.int .u8)) ∧ Below w1.heap.size w1 wr) (fun _ i _ => l.length - (intOf i).toNat)
        case atStart => exact ⟨0, _, rfl, by omega, rfl, fun j hj => absurd hj (by omega), World.ownsRow_nil _ _ _ _, Below.refl _ _⟩
        case round =>
          obtain ⟨k, ev, rfl, hk, rfl, hall, hown, hbr⟩ := hrel
          by_cases hlt : k < l.length
          · obtain ⟨b, off, rfl, hb, u, hu, hsu⟩ := hs.at hlt
            have hu : wr.cell? ⟨b, off + k, none⟩ = some u := by rw [hbr.cell (p := ⟨b, off + k, none⟩) hb]; exact hu
            have hsu := hsu.below hbr (Nat.le_refl _)
            obtain ⟨xb, xo, rfl, hxb, hxc⟩ := hd1.ints (k := k) (by rw [HDL.out]; have := HLL.out; omega)
            have hxk : wr.cell? ⟨xb, xo + k, none⟩ = some (.int .i64 (DD.getD k 0)) := by rw [hbr.cell (p := ⟨xb, xo + k, none⟩) hxb]; exact hxc k (by rw [HDL.out]; have := HLL.out; omega)
            have hkI : (k : Int) < (l.length : Int) := by omega
            have hkD : (k : Int) < 4 * (dg.length : Int) + 5 := by have := HLL.out; omega
            obtain ⟨ua, uc, rfl, huc, hum⟩ := hsu.shape
            rw [List.length_map] at hu huc hsu
            have HRK := Lib.hid (show recK dg.length l idx DD k = chI dg.length idx k (DD.getD k 0) ((l.getD k []).take 32) (3 - (DD.getD k 0).toNat) from rfl)
            have hdm := HDM.out k
            have hPB := HBB.out k
            have HEX := Lib.hid (fun (h : ¬ ((l.getD k []).length : Int) = (dg.length : Int)) => (⟨l[k], List.getElem_mem hlt, by rw [List.getD_eq_getElem?_getD, List.getElem?_eq_getElem hlt] at h; exact h⟩ : ∃ p ∈ l, ¬ (p.length : Int) = (dg.length : Int)))
            have HALL := Lib.hid (fun (h : ((l.getD k []).length : Int) = (dg.length : Int)) => (fun j (hj : j < k + 1) => by
              rcases Nat.lt_or_ge j k with h1 | h1
              · exact hall.out j h1
              · obtain rfl : j = k := by omega
                exact h : ∀ j, j < k + 1 → ((l.getD j []).length : Int) = (dg.length : Int)))
            generalize l.getD k [] = P at *
            generalize DD.getD k 0 = D at *
            obtain ⟨d, rfl⟩ : ∃ d : Nat, D = d := ⟨D.toNat, by omega⟩
            rw [Int.toNat_natCast] at HRK
            clear hxc
            by_cases hP : (P.length : Int) = (dg.length : Int)
            · have hg1 : ((P.length : Int) != (dg.length : Int)) = false := by simpa using hP
              have hP32 : P.length ≤ 32 := by omega
              rw [List.take_of_length_le hP32] at HRK
              have HN := Lib.hid (HALL.out hP)
              have HLN := Lib.hid (show (catI (recK dg.length l idx DD) k).length + (recK dg.length l idx DD k).length ≤ 100000 by have := HCL.out DD k; have := HCL1.out DD k; have := HLL.out; omega)
              have HCS := Lib.hid (refChain3_any dg.length (.slice ua P.length uc) P idx k d wr hx0 hx1 (by omega) (by omega) (by omega) (by omega) hPB hsu)
              rw [← HRK.out] at HCS
              clear hP HALL HEX hPB hsu
              go_wp2_with fail
              refine HCS.out.mono ?_
              rintro e w3 ⟨x2, rfl, hx2, hb3⟩
              have hown := ownsRow_below hown hb3 (Nat.le_refl _)
              have hbr := hbr.trans (hb3.mono hbr.size)
              clear hb3 hu hxk HCS
              obtain ⟨ya, yn, yc, rfl⟩ := hx2.val
              go_wp2_with (at_builtin; refine wpList_append_sl rfl _ _ 22 rfl w1.heap.size 5 i0 (.int .u8 0) 1 Tryd.underlying22 hi hz0' hz1' hz2' rfl _ _ _ rfl hown (.slice ya yn yc) ((recK dg.length l idx DD k).map (Value.int .u8)) rfl hx2 (one8 _) (by have := HLN.out; rw [List.length_map]; unfold maxLen; omega) (by have := HLN.out; rw [List.length_map]; omega) hbr.size ?_)
              intro v3 w4 hown3 hg3
              have hb3 := below_grown hbr hown (Nat.le_refl _) hbr.size hg3
              clear hg3 hown hx2 hbr
              go_wp2
              go_roundw
              case rel => exact ⟨k + 1, v3, rfl, by omega, by go_num, HN.out, by simpa [catI] using hown3, hb3⟩
              case measure => simp [intOf]; omega
            · have hg1 : ((P.length : Int) != (dg.length : Int)) = true := by simpa using hP
              have hex := HEX.out hP
              rw [decide_eq_true hex] at HRB
              rw [show recB dg.length l idx dg.length = false by rw [HRB.out]; simp] at HE HL
              rw [if_neg (by decide)] at HE HL
              clear hex HALL HEX hP hall hown hPB hsu
              go_wp2
              go_ret2
              exact ⟨_, ret_two HE.out.symm, by rw [HL.out]; exact Sl.nil _, hb1.trans (hbr.mono hb1s)⟩
          · have hkI : ¬ (k : Int) < (l.length : Int) := by omega
            have hno : ¬ ∃ p ∈ l, ¬ (p.length : Int) = (dg.length : Int) := by
              rintro ⟨p, hp, hne⟩
              obtain ⟨j, hj, rfl⟩ := List.mem_iff_getElem.1 hp
              have := hall.out j (by omega)
              rw [List.getD_eq_getElem?_getD, List.getElem?_eq_getElem hj] at this
              exact hne this
            rw [decide_eq_false hno] at HRB
            rw [show recB dg.length l idx dg.length = true by rw [HRB.out]; simp] at HE HL
            rw [if_pos rfl] at HE HL
            rw [Int.toNat_natCast] at HL
            obtain rfl : k = 4 * dg.length + 5 := by have := HLL.out; omega
            have hs2 := Sl.of_owns hown
            have hCC := catI_isB (HCB.out DD) (4 * dg.length + 5)
            clear hno hown hall
            go_wp2_with fail
            refine (refKey0_any dg.length idx _ _ wr hx0 hx1 hCC hs2).mono ?_
            rintro e w2 ⟨y, rfl, hy, hb2⟩
            have hbr := hbr.trans (hb2.mono hbr.size)
            go_wp2
            go_ret2
            exact ⟨_, ret_two HE.out.symm, by rw [HL.out]; exact hy, hb1.trans (hbr.mono hb1s)⟩
      · have f1 : ((l.length : Int) != 4 * (dg.length : Int) + 5) = true := by simpa using hl
        rw [show recB dg.length l idx dg.length = false by rw [HRB.out]; simp [hl]] at HE HL
        rw [if_neg (by decide)] at HE HL
        rw [HE.out]
        clear hl
        go_enter Tryd.func96, Tryd.ntmps96
        go_wp2_with fail
        refine HQ1.out.mono ?_
        rintro e w1 ⟨rfl, rfl⟩
        go_wp2
        go_ret2
        exact ⟨_, rfl, by rw [HL.out]; exact Sl.nil _, Below.refl _ _⟩
    · have f1 : ((dg.length : Int) != (n : Int)) = true := by simpa using hm
      rw [show recB n l idx dg.length = false by rw [HRB.out]; simp [hm]] at HE HL
      rw [if_neg (by decide)] at HE HL
      rw [HE.out]
      go_enter Tryd.func96, Tryd.ntmps96
      go_wp2_with fail
      refine HQ1.out.mono ?_
      rintro e w1 ⟨rfl, rfl⟩
      go_wp2
      go_ret2
      exact ⟨_, rfl, by rw [HL.out]; exact Sl.nil _, Below.refl _ _⟩
  · rw [Bool.not_eq_true] at hcb
    rw [hcb] at HQ1 HRB
    rw [show recB size l idx dg.length = false by rw [HRB.out]; simp] at HE HL
    rw [if_neg (by decide)] at HE HL
    rw [HE.out]
    clear hcb
    go_enter Tryd.func96, Tryd.ntmps96
    go_wp2_with fail
    refine HQ1.out.mono ?_
    rintro e w1 ⟨rfl, rfl⟩
    go_wp2
    go_ret2
    exact ⟨_, rfl, by rw [HL.out]; exact Sl.nil _, Below.refl _ _⟩

end Go.Proofs.YtililoojjfcfgaaDoor

namespace Go.Proofs.YtililoojjfcfgaaDoor
open Go.RowKit
set_option linter.unusedVariables false

theorem digits255 : digitsOf [255] = [3, 3, 3, 3, 0, 0, 0, 0, 0] := by decide +kernel


end Go.Proofs.YtililoojjfcfgaaDoor

namespace Go.Proofs.YtililoojjfcfgaaDoor
open Go.RowKit
set_option linter.unusedVariables false

theorem texts_differ {ps qs : List (List Int)} {k : Nat} (h : ps.getD k [] ≠ qs.getD k []) : decide (ps = qs) = false := by
  simp only [decide_eq_false_iff_not]
  rintro rfl
  exact h rfl
theorem texts_same {ps qs : List (List Int)} (hl : ps.length = qs.length) (h : ∀ j, j < ps.length → ps.getD j [] = qs.getD j []) : decide (ps = qs) = true := by
  simp only [decide_eq_true_eq]
  refine List.ext_getElem hl fun j h1 h2 => ?_
  have := h j h1
  rwa [List.getD_eq_getElem?_getD, List.getD_eq_getElem?_getD, List.getElem?_eq_getElem h1, List.getElem?_eq_getElem h2] at this
theorem isB_at {ps : List (List Int)} (h : ∀ p ∈ ps, IsB p) {k : Nat} (hk : k < ps.length) : IsB (ps.getD k []) := h _ (by rw [List.getD_eq_getElem?_getD, List.getElem?_eq_getElem hk]; exact List.getElem_mem hk)

set_option maxHeartbeats 1000000 in
theorem equalFunc_any (v1 v2 : Value) (ps qs : List (List Int)) (w : World) (h1 : Sls w v1 ps) (h2 : Sls w v2 qs) (hp : ∀ p ∈ ps, IsB p) (hq : ∀ p ∈ qs, IsB p) :
    Calls Tryd.prog 67 #[v1, v2, .func (.func 17) #[] #[]] w fun e w' => e = .returned (.bool (decide (ps = qs))) ∧ w = w' := by
  obtain ⟨a1, c1, rfl, hc1, hm1⟩ := h1.shape
  obtain ⟨a2, c2, rfl, hc2, hm2⟩ := h2.shape
  by_cases hl : ps.length = qs.length
  · have HL := Lib.hid hl
    rw [← hl] at h2 hc2
    rw [← hl]
    clear hl
    go_enter Tryd.func67, Tryd.ntmps67
    go_wp2
    go_loopw [17] (fun i wr => ∃ k : Nat, k ≤ ps.length ∧ i = .int .i64 k ∧ Hid (∀ j, j < k → ps.getD j [] = qs.getD j []) ∧ w = wr) (fun i _ => ps.length - (intOf i).toNat)
    case atStart => exact ⟨0, by omega, rfl, fun j hj => absurd hj (by omega), rfl⟩
    case round =>
      obtain ⟨k, hk, rfl, hall, rfl⟩ := hrel
      by_cases hlt : k < ps.length
      · obtain ⟨b1, o1, rfl, hb1, u1, hu1, hs1⟩ := h1.at hlt
        obtain ⟨b2, o2, rfl, hb2, u2, hu2, hs2⟩ := h2.at (k := k) (by rw [← HL.out]; exact hlt)
        have hkI : (k : Int) < (ps.length : Int) := by omega
        have he := Lib.hid (bytesEq_any u1 u2 _ _ w hs1 hs2 (isB_at hp hlt) (isB_at hq (k := k) (by rw [← HL.out]; exact hlt)))
        clear hs1 hs2
        go_wp2_with fail
        refine he.out.mono ?_
        by_cases hxy : ps.getD k [] = qs.getD k []
        · rw [show decide (ps.getD k [] = qs.getD k []) = true by simpa using hxy]
          rintro e w1 ⟨rfl, rfl⟩
          have HX := Lib.hid hxy
          clear hxy hu1 hu2 he
          go_wp2
          go_roundw
          case rel =>
            refine ⟨k + 1, by omega, by go_num, fun j hj => ?_, by first | rfl | trivial⟩
            rcases Nat.lt_or_ge j k with h | h
            · exact hall.out j h
            · obtain rfl : j = k := by omega
              exact HX.out
          case measure => simp [intOf]; omega
        · rw [show decide (ps.getD k [] = qs.getD k []) = false by simpa using hxy]
          rintro e w1 ⟨rfl, rfl⟩
          have HD := Lib.hid (texts_differ hxy)
          clear hxy hu1 hu2 he
          go_wp2
          go_ret
          exact ⟨ret_bool HD.out.symm, rfl⟩
      · have hkI : ¬ (k : Int) < (ps.length : Int) := by omega
        have HD := Lib.hid (texts_same HL.out fun j hj => hall.out j (by omega))
        go_wp2
        go_ret
        exact ⟨ret_bool HD.out.symm, rfl⟩
  · have hI : ¬ (ps.length : Int) = (qs.length : Int) := by omega
    have HD := Lib.hid (show decide (ps = qs) = false by simp only [decide_eq_false_iff_not]; rintro rfl; exact hl rfl)
    clear hl
    go_enter Tryd.func67, Tryd.ntmps67
    go_wp2
    go_ret
    exact ⟨ret_bool HD.out.symm, rfl⟩

theorem sameTexts_any (v1 v2 : Value) (ps qs : List (List Int)) (w : World) (h1 : Sls w v1 ps) (h2 : Sls w v2 qs) (hp : ∀ p ∈ ps, IsB p) (hq : ∀ p ∈ qs, IsB p) :
    Calls Tryd.prog 26 #[v1, v2] w fun e w' => e = .returned (.bool (decide (ps = qs))) ∧ w = w' := by
  have he := Lib.hid (equalFunc_any v1 v2 ps qs w h1 h2 hp hq)
  go_enter Tryd.func26, Tryd.ntmps26
  go_wp2_with fail
  refine he.out.mono ?_
  rintro e w1 ⟨rfl, rfl⟩
  go_wp2
  go_ret
  exact ⟨rfl, rfl⟩

end Go.Proofs.YtililoojjfcfgaaDoor

namespace Go.Proofs.YtililoojjfcfgaaDoor
open Go.RowKit
set_option linter.unusedVariables false

theorem sgU_isB (size : Int) (seed : List Int) (idx : Int) (dd : List Int) (k : Nat) : ∀ p ∈ sgU size seed idx dd k, IsB p := fun p hp => by
  unfold sgU at hp
  obtain ⟨i, _, rfl⟩ := List.mem_map.1 hp
  exact chI_isB _ _ _ _ _ (secI_isB _ _ _ _) _
theorem signL_isB (size : Int) (seed : List Int) (idx : Int) (dg : List Int) : ∀ p ∈ signL size seed idx dg, IsB p := by
  unfold signL; split
  · exact sgU_isB _ _ _ _ _
  · intro p hp; cases hp


end Go.Proofs.YtililoojjfcfgaaDoor
