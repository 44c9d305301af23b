
/- A device: which sectors wait; Crash. A device: Crash. A log behind a crash: plainly. Conditions: none. A log's sectors, read back: plainly. Conditions: none. The reference's log: a number, four, padded, text, mark: the walks. Conditions: none. The reference's log: mark, number: the walks. Conditions: none. The reference's device: what it holds, a change, the fuse. The reference's log: what its next record is, plainly. Conditions: none. A batch of changes: how it reads (a slice of structs of two byte slices); what is wrong with it. The walk of the batch's check (a map that the call makes). The walk of the reference's check of a batch. The walk of Same: whether two batches are the same. Appends of a slice of bytes that is read to an own row of bytes, as a step of a walk and as one of a region whose order is drawn. -/
import Derived.Test.YtgfkejecigefbaaDoorDvC
import Derived.Test.YtgfkejecigefbaaDoorDvD
import Derived.Test.YtgfkejecigefbaaDoorDvE
import Derived.Test.YtgfkejecigefbaaDoorSo1
import Derived.Test.YtgfkejecigefbaaDoorShaI
import Derived.ArgAppend
import Derived.Test.YtgfkejecigefbaaDoorBytes
import Derived.Test.YtgfkejecigefbaaDoorBlk
import Derived.Maps.OwnOps
import Derived.Maps.OwnSet
import Derived.Maps.Views
import Derived.Deep.QuietTactic
import Derived.BigQuiet
import Derived.Outline
import Derived.Test.YtgfkejecigefbaaDoorClone
import Derived.Deep.RegionLaw
namespace Go.Proofs.YtgfkejecigefbaaDoor
open Go.RowKit
set_option linter.unusedVariables false

theorem infoInt : (Tryd.prog.info? 3).map (fun i => (i.zero, i.size, i.bytes)) = some (some (.int .i64 0), 1, 8) := by kernel_rfl
/-- The numbers among the first n of those that wait. -/
def wlN (l : List Bool) : Nat → List Nat
  | 0 => []
  | n + 1 => wlN l n ++ (if l.getD n false = true then [n] else [])
def wlL (l : List Bool) : List Nat := wlN l l.length
theorem wlN_le (l : List Bool) : ∀ {i j : Nat}, i ≤ j → (wlN l i).length ≤ (wlN l j).length := by
  intro i j h
  induction h with
  | refl => exact Nat.le_refl _
  | step _ ih => rw [wlN, List.length_append]; omega
theorem wlN_bound (l : List Bool) : ∀ n, (wlN l n).length ≤ n
  | 0 => by simp [wlN]
  | n + 1 => by
    have := wlN_bound l n
    rw [wlN, List.length_append]; split <;> simp <;> omega
theorem wlN_lt {l : List Bool} {i j : Nat} (hi : l.getD i false = true) (h : i < j) : (wlN l i).length < (wlN l j).length := by
  have h1 : (wlN l (i + 1)).length = (wlN l i).length + 1 := by rw [wlN, hi]; simp
  have := wlN_le l (show i + 1 ≤ j from h)
  omega
theorem wlN_inj {l : List Bool} {i j : Nat} (hi : l.getD i false = true) (hj : l.getD j false = true) (h : (wlN l i).length = (wlN l j).length) : i = j := by
  rcases Nat.lt_trichotomy i j with q | q | q
  · have := wlN_lt hi q; omega
  · exact q
  · have := wlN_lt hj q; omega
theorem wlN_get (l : List Bool) : ∀ (n k : Nat), k < (wlN l n).length → ∃ i, i < n ∧ (wlN l n)[k]? = some i ∧ l.getD i false = true ∧ (wlN l i).length = k
  | 0, k, h => by simp [wlN] at h
  | n + 1, k, h => by
    rcases Nat.lt_or_ge k (wlN l n).length with q | q
    · obtain ⟨i, h1, h2, h3, h4⟩ := wlN_get l n k q
      exact ⟨i, by omega, by rw [wlN, List.getElem?_append_left q]; exact h2, h3, h4⟩
    · by_cases hw : l.getD n false = true
      · rw [wlN, if_pos hw] at h ⊢
        rw [List.length_append, List.length_singleton] at h
        have hk : k = (wlN l n).length := by omega
        exact ⟨n, by omega, by rw [hk, List.getElem?_append_right (Nat.le_refl _)]; simp, hw, hk.symm⟩
      · rw [wlN, if_neg hw, List.append_nil] at h; omega
def DSt.ws (d : DSt) : List Bool := d.l.map Sec.waits
theorem ws_at {l : List Sec} {i : Nat} {s : Sec} (h : l[i]? = some s) : (l.map Sec.waits).getD i false = s.waits := by
  rw [List.getD_eq_getElem?_getD, List.getElem?_map, h]; rfl

set_option maxRecDepth 100000 in
set_option maxHeartbeats 1000000 in
theorem dwaits_any (w : World) (g b : Nat) (d : DSt) (h : Dev w g b d) :
    Calls Tryd.prog 43 #[.pointer (some ⟨g, 0, none⟩)] w fun e w' => ∃ x, e = .returned x ∧ w'.ownsRow w.heap.size 3 1 x (wlL d.ws).length ((wlL d.ws).map fun i : Nat => Value.int .i64 i) ∧ Below w.heap.size w w' := by
  have HN := Lib.hid (dnone_any w g b d h)
  have HD := Lib.hid h
  have HWL := Lib.hid (show wlL d.ws = wlN d.ws d.l.length from by unfold wlL DSt.ws; rw [List.length_map])
  obtain ⟨cap, h1, h2, k⟩ := h.blk
  have c0 : w.cell? ⟨g, 0, none⟩ = some (.slice (some ⟨b, 0, none⟩) d.l.length cap) := k.cell 0
  have hp := h.pos
  obtain ⟨i0, hi, hz0, hz1, hz2⟩ := info_parts infoInt
  clear h k
  go_enter Tryd.func43, Tryd.ntmps43
  go_wp2_with fail
  refine HN.out.mono ?_
  rintro e w1 ⟨rfl, rfl⟩
  go_wp2
  go_loopw [3, 12] (fun l i wr => ∃ (k : Nat) (v : Value), v = l ∧ k ≤ d.l.length ∧ i = .int .i64 k ∧ wr.ownsRow w.heap.size 3 1 v (wlN d.ws k).length ((wlN d.ws k).map fun i : Nat => Value.int .i64 i) ∧ Below w.heap.size w wr) (fun _ i _ => d.l.length - (intOf i).toNat)
  case atStart => exact ⟨0, _, rfl, by omega, rfl, World.ownsRow_nil _ _ _ _, Below.refl _ _⟩
  case round =>
    clear c0
    obtain ⟨k, v, rfl, hk, rfl, hO, hb⟩ := hrel
    have hDr := HD.out.below hb
    obtain ⟨cap, h1, h2, kk⟩ := hDr.blk
    have c0 : wr.cell? ⟨g, 0, none⟩ = some (.slice (some ⟨b, 0, none⟩) d.l.length cap) := kk.cell 0
    obtain ⟨va, vn, vc, rfl⟩ := (Sl.of_owns hO).val
    by_cases hlt : k < d.l.length
    · have hkI : (k : Int) < (d.l.length : Int) := by omega
      have hg : d.l[k]? = some d.l[k] := List.getElem?_eq_getElem hlt
      have c8 := (hDr.row.at_ k _ hg).waits
      have hw8 : d.ws.getD k false = d.l[k].waits := ws_at hg
      generalize d.l[k].waits = x at *
      have HB := Lib.hid (wlN_bound d.ws k)
      cases x with
      | true =>
        have HT := Lib.hid (show wlN d.ws (k + 1) = wlN d.ws k ++ [k] from by rw [wlN, if_pos hw8])
        have HT2 := Lib.hid (show (wlN d.ws (k + 1)).map (fun i : Nat => Value.int .i64 i) = (wlN d.ws k).map (fun i : Nat => Value.int .i64 i) ++ [.int .i64 k] ∧ (wlN d.ws (k + 1)).length = (wlN d.ws k).length + 1 from by rw [HT.out]; simp)
        generalize (wlN d.ws k).map (fun i : Nat => Value.int .i64 i) = XS at *
        generalize (wlN d.ws k).length = n at *
        have hbA : Below wr.heap.size wr (wr.alloc (.cells #[.int .i64 k] 3)) := (Below.refl _ _).alloc (Nat.le_refl _) _
        have hO3 := ownsRow_below hO hbA (Nat.le_refl _)
        have hc3 := (Blk.new wr 3 #[.int .i64 k]).cell 0
        have hbA2 := hb.trans (hbA.mono hb.size)
        clear hDr kk hg hw8 hO hbA hb HT
        go_wp2_with (at_builtin; refine wpList_append_own _ rfl _ _ 70 rfl w.heap.size 3 i0 (.int .i64 0) 1 8 Tryd.underlying70 hi hz0 hz1 hz2 rfl (by decide) _ n XS rfl hO3 ⟨wr.heap.size, 0, none⟩ 1 1 [.int .i64 k] rfl rfl (fun j u hj => by match j, hj with | 0, hj => (simp at hj; subst hj; exact hc3) | j + 1, hj => simp at hj) (by simp [Value.oneCell']) (by have := HB.out; unfold maxLen; omega) (by have := HB.out; omega) hbA2.size ?_)
        intro v5 w5 hO5 hg5 _
        have hb6 := below_grown hbA2 hO3 (Nat.le_refl _) hbA2.size hg5
        rw [← HT2.out.1, ← HT2.out.2] at hO5
        clear hg5 hO3 hc3 hbA2
        go_wp2
        go_roundw
        case rel => exact ⟨k + 1, v5, rfl, by omega, by go_num, hO5, hb6⟩
        case measure => simp [intOf]; omega
      | false =>
        have HT := Lib.hid (show wlN d.ws (k + 1) = wlN d.ws k from by rw [wlN, if_neg (by rw [hw8]; simp), List.append_nil])
        clear hDr kk hg hw8
        go_wp2
        go_roundw
        case rel => exact ⟨k + 1, _, rfl, by omega, by go_num, by rw [HT.out]; exact hO, hb⟩
        case measure => simp [intOf]; omega
    · obtain rfl : k = d.l.length := by omega
      have hkI : ¬ (d.l.length : Int) < (d.l.length : Int) := by omega
      clear hDr kk
      go_wp2
      go_ret
      exact ⟨_, rfl, by rw [HWL.out]; exact hO, hb⟩

/-- What a crash makes of a sector that waits, the k-th of them. -/
def crS (keep : List Int) (k : Nat) (s : Sec) : Sec := if keep.length ≤ k ∨ keep.getD k 0 = 0 then { now := s.kept, kept := s.kept, waits := false } else { now := s.now, kept := s.now, waits := false }
def crF (ws : List Bool) (keep : List Int) (i : Nat) (s : Sec) : Sec := if s.waits = true then crS keep (wlN ws i).length s else s
def crK (l : List Sec) (keep : List Int) (k : Nat) : List Sec := l.mapIdx fun i s => if s.waits = true ∧ (wlN (l.map Sec.waits) i).length < k then crS keep (wlN (l.map Sec.waits) i).length s else s
def crashL (l : List Sec) (keep : List Int) : List Sec := l.mapIdx (crF (l.map Sec.waits) keep)
def DSt.crash (d : DSt) (keep : List Int) : DSt := { l := crashL d.l keep, dead := false, fused := false, burns := 0, changes := d.changes }
theorem crS_ok {keep : List Int} {k : Nat} {s : Sec} (h : s.ok) : (crS keep k s).ok := by
  unfold crS
  split
  · exact ⟨h.2.1, h.2.1, h.2.2.2.1, h.2.2.2.1, fun _ => rfl⟩
  · exact ⟨h.1, h.1, h.2.2.1, h.2.2.1, fun _ => rfl⟩
theorem crF_ok {ws : List Bool} {keep : List Int} {i : Nat} {s : Sec} (h : s.ok) : (crF ws keep i s).ok := by
  unfold crF; split
  · exact crS_ok h
  · exact h
theorem crK_zero (l : List Sec) (keep : List Int) : crK l keep 0 = l := by
  apply List.ext_getElem?; intro i
  unfold crK
  rw [List.getElem?_mapIdx]
  simp
theorem crK_all (l : List Sec) (keep : List Int) : crK l keep (wlL (l.map Sec.waits)).length = crashL l keep := by
  apply List.ext_getElem?; intro i
  unfold crK crashL
  rw [List.getElem?_mapIdx, List.getElem?_mapIdx]
  rcases Nat.lt_or_ge i l.length with h | h
  · rw [List.getElem?_eq_getElem h, Option.map_some, Option.map_some]
    congr 1
    unfold crF
    by_cases hw : l[i].waits = true
    · have h1 : (l.map Sec.waits).getD i false = true := by rw [ws_at (List.getElem?_eq_getElem h)]; exact hw
      have h2 := wlN_lt h1 (j := (l.map Sec.waits).length) (by rw [List.length_map]; exact h)
      rw [if_pos ⟨hw, h2⟩, if_pos hw]
    · rw [if_neg (fun q => hw q.1), if_neg hw]
  · rw [List.getElem?_eq_none h]; rfl
/-- The k-th that waits. -/
theorem crK_at {l : List Sec} (keep : List Int) {k : Nat} (hk : k < (wlL (l.map Sec.waits)).length) : ∃ i s, (wlL (l.map Sec.waits))[k]? = some i ∧ l[i]? = some s ∧ (crK l keep k)[i]? = some s ∧ (crK l keep k).set i (crS keep k s) = crK l keep (k + 1) := by
  obtain ⟨i, h1, h2, h3, h4⟩ := wlN_get (l.map Sec.waits) _ k hk
  rw [List.length_map] at h1
  have hg : l[i]? = some l[i] := List.getElem?_eq_getElem h1
  have hw : l[i].waits = true := by rw [← ws_at hg]; exact h3
  refine ⟨i, l[i], h2, hg, ?_, ?_⟩
  · unfold crK
    rw [List.getElem?_mapIdx, hg, Option.map_some, if_neg (fun q => by omega)]
  · apply List.ext_getElem?; intro j
    unfold crK
    by_cases e : i = j
    · subst e
      rw [List.getElem?_set_self (by rw [List.length_mapIdx]; exact h1), List.getElem?_mapIdx, hg, Option.map_some, if_pos ⟨hw, by omega⟩, h4]
    · rw [List.getElem?_set_ne e, List.getElem?_mapIdx, List.getElem?_mapIdx]
      rcases Nat.lt_or_ge j l.length with q | q
      · rw [List.getElem?_eq_getElem q, Option.map_some, Option.map_some]
        congr 1
        by_cases hwj : l[j].waits = true
        · have h5 : (l.map Sec.waits).getD j false = true := by rw [ws_at (List.getElem?_eq_getElem q)]; exact hwj
          have h6 : (wlN (l.map Sec.waits) j).length ≠ k := fun he => e (wlN_inj h3 h5 (h4.trans he.symm))
          by_cases hlt : (wlN (l.map Sec.waits) j).length < k
          · rw [if_pos ⟨hwj, hlt⟩, if_pos ⟨hwj, by omega⟩]
          · rw [if_neg (fun z => hlt z.2), if_neg (fun z => by omega)]
        · rw [if_neg (fun z => hwj z.1), if_neg (fun z => hwj z.1)]
      · rw [List.getElem?_eq_none q]; rfl

end Go.Proofs.YtgfkejecigefbaaDoor

namespace Go.Proofs.YtgfkejecigefbaaDoor
open Go.RowKit
set_option linter.unusedVariables false

set_option maxRecDepth 100000 in
set_option maxHeartbeats 4000000 in
theorem dcrash_any (w : World) (g b : Nat) (d : DSt) (v : Value) (keep : List Int) (h : Dev w g b d) (hv : Sl w v (keep.map (Value.int .u8))) (hne : ∀ o n c, 0 < n → v ≠ .slice (some ⟨b, o, none⟩) n c) :
    Calls Tryd.prog 20 #[.pointer (some ⟨g, 0, none⟩), v] w fun e w' => e = .returned (.int .i64 0) ∧ Dev w' g b (d.crash keep) ∧ Only [g, b] w w' := by
  have HN := Lib.hid (dnone_any w g b d h)
  have HW := Lib.hid (dwaits_any w g b d h)
  have HD := Lib.hid h
  have HV := Lib.hid hv
  have HNE := Lib.hid hne
  obtain ⟨va, vc, rfl, hvc, hvm⟩ := hv.shape
  rw [List.length_map] at *
  have hgb := h.ne
  have hpos := h.pos
  clear h hv hne
  go_enter Tryd.func20, Tryd.ntmps20
  go_wp2_with fail
  refine HN.out.mono ?_
  rintro e w1 ⟨rfl, rfl⟩
  go_wp2_with fail
  refine HW.out.mono ?_
  rintro e w1 ⟨x, rfl, hx, hb1⟩
  obtain ⟨xa, xn, xc, rfl⟩ := (Sl.of_owns hx).val
  obtain rfl : xn = (wlL d.ws).length := by
    have := (Sl.of_owns hx).len.1
    rw [List.length_map] at this; exact this
  have hD1 := HD.out.below hb1
  have hv1 := HV.out.below hb1 (Nat.le_refl _)
  obtain ⟨cap, h1, h2, k⟩ := hD1.blk
  have HK := Lib.hid k
  have HR := Lib.hid hD1.row
  have HOK := Lib.hid hD1.ok
  have HX := Lib.hid hx
  have HB1 := Lib.hid hb1
  have HV1 := Lib.hid hv1
  have HWB := Lib.hid (show (wlL d.ws).length ≤ 16384 from by have := wlN_bound d.ws d.ws.length; unfold wlL; unfold DSt.ws at this ⊢; rw [List.length_map] at this ⊢; omega)
  have hWBB := HWB.out
  clear hx hb1 hv1 hD1 k
  go_wp2
  go_loopw [13] (fun i wr => ∃ k : Nat, k ≤ (wlL d.ws).length ∧ i = .int .i64 k ∧ SRow wr b (crK d.l keep k) ∧ Only [b] w1 wr) (fun i _ => (wlL d.ws).length - (intOf i).toNat)
  case atStart => exact ⟨0, by omega, rfl, by rw [crK_zero]; exact HR.out, Only.refl _ _⟩
  case round =>
    obtain ⟨k, hk, rfl, hr, ho⟩ := hrel
    have kr := ho.blk HK.out (by simp; exact hgb)
    have c0 : wr.cell? ⟨g, 0, none⟩ = some (.slice (some ⟨b, 0, none⟩) d.l.length cap) := kr.cell 0
    by_cases hlt : k < (wlL d.ws).length
    · have hkI : (k : Int) < ((wlL d.ws).length : Int) := by omega
      obtain ⟨i, s, e1, e2, e3, e4⟩ := crK_at (l := d.l) keep hlt
      have hil : i < d.l.length := (List.getElem?_eq_some_iff.1 e2).1
      have hiI : (i : Int) < (d.l.length : Int) := by omega
      obtain ⟨xb, xcap, hxa, hxl⟩ := HX.out.form (by omega)
      obtain ⟨rfl, rfl⟩ : xa = some ⟨xb, 0, none⟩ ∧ xc = xcap := by cases hxa; exact ⟨rfl, rfl⟩
      have hxbb : xb ≠ b := by
        obtain ⟨cur, kk⟩ := owns_blk HX.out (g := xb) rfl
        obtain ⟨cur2, k2⟩ := HR.out.typ
        exact Blk.ne_ kk k2 (by decide)
      have cx : wr.cell? ⟨xb, k, none⟩ = some (.int .i64 i) := by
        have := HX.out.cellAt k (by omega)
        rw [List.getElem?_map, show (wlL d.ws)[k]? = some i from e1] at this
        exact (ho.cell (p := ⟨xb, k, none⟩) hxl.2 (by simp; exact hxbb)).trans this
      have hS := hr.at_ i s e3
      have hL := hr.len s (List.mem_of_getElem? e3)
      have hT : wr.there b (i * 129) (s.kept.map (Value.int .u8)).toArray.size := by
        have := hr.there hS.now
        rw [List.length_map, hL.1] at this
        rw [List.size_toArray, List.length_map, hL.2]; exact this
      have HT := Lib.hid hT
      have HL := Lib.hid hL
      have HSK := Lib.hid hS.kept
      have hil2 : i < (crK d.l keep k).length := (List.getElem?_eq_some_iff.1 e3).1
      have HS1' := Lib.hid (settle_any (wr.setCells b (i * 129) (s.kept.map (Value.int .u8))) b i _ { s with now := s.kept } (hr.setNow e3 (bs := s.kept) hL.2) (List.getElem?_set_self hil2))
      have HS2 := Lib.hid (settle_any wr b i _ _ hr e3)
      have HO1 := Lib.hid (Only.setCells [b] wr (b := b) (by simp) (i * 129) (s.kept.map (Value.int .u8)))
      have c01 : (wr.setCells b (i * 129) (s.kept.map (Value.int .u8))).cell? ⟨g, 0, none⟩ = some (.slice (some ⟨b, 0, none⟩) d.l.length cap) := (HO1.out.blk kr (by simp; exact hgb)).cell 0
      have HE4 := Lib.hid e4
      have HO := Lib.hid ho
      clear hS hL hT hr kr ho e1 e2 e3 e4
      by_cases hkk : keep.length ≤ k
      · have hcr := Lib.hid (show crS keep k s = { now := s.kept, kept := s.kept, waits := false } from if_pos (.inl hkk))
        have hkkI : (keep.length : Int) ≤ (k : Int) := by omega
        go_wp2_with (first
          | (with_reducible refine wpList_load_mid rfl _ _ rfl b (i * 129 + 64) rfl (s.kept.map (Value.int .u8)) _ HSK.out Tryd.underlying85 rfl (size64L HL.out.2) ?_)
          | (refine wpList_store_mid rfl 85 _ _ rfl b (i * 129) (s.kept.map (Value.int .u8)).toArray rfl rfl HT.out (by rw [List.size_toArray]; exact size64L HL.out.2) (all_oneCell_toArray (oneB _)) ?_)
          | (go_at_call 44; refine HS1'.out.mono ?_; rintro e w2 ⟨rfl, hr2, ho2⟩))
        have hr3 : SRow w2 b (crK d.l keep (k + 1)) := by rw [← HE4.out, hcr.out]; rw [List.set_set] at hr2; exact hr2
        have ho3 := HO.out.trans (HO1.out.trans ho2)
        clear hr2 ho2
        go_wp2
        go_roundw
        case rel => exact ⟨k + 1, by omega, by go_num, hr3, ho3⟩
        case measure => simp [intOf]; omega
      · have hkkI : ¬ (keep.length : Int) ≤ (k : Int) := by omega
        have hkL : k < keep.length := by omega
        obtain ⟨kb, ko, rfl, hkb, hkc⟩ := HV1.out.ints (k := k) hkL
        have hkne : kb ≠ b := fun e => HNE.out ko keep.length vc (by omega) (by rw [e])
        have ck := (HO.out.cell (p := ⟨kb, ko + k, none⟩) hkb (by simp; exact hkne)).trans (hkc k hkL)
        have hkI2 : (k : Int) < (keep.length : Int) := by omega
        by_cases hz : keep.getD k 0 = 0
        · have hcr := Lib.hid (show crS keep k s = { now := s.kept, kept := s.kept, waits := false } from if_pos (.inr hz))
          rw [hz] at ck
          clear hz
          go_wp2_with (first
            | (with_reducible refine wpList_load_mid rfl _ _ rfl b (i * 129 + 64) rfl (s.kept.map (Value.int .u8)) _ HSK.out Tryd.underlying85 rfl (size64L HL.out.2) ?_)
            | (refine wpList_store_mid rfl 85 _ _ rfl b (i * 129) (s.kept.map (Value.int .u8)).toArray rfl rfl HT.out (by rw [List.size_toArray]; exact size64L HL.out.2) (all_oneCell_toArray (oneB _)) ?_)
            | (go_at_call 44; refine HS1'.out.mono ?_; rintro e w2 ⟨rfl, hr2, ho2⟩))
          have hr3 : SRow w2 b (crK d.l keep (k + 1)) := by rw [← HE4.out, hcr.out]; rw [List.set_set] at hr2; exact hr2
          have ho3 := HO.out.trans (HO1.out.trans ho2)
          clear hr2 ho2
          go_wp2
          go_roundw
          case rel => exact ⟨k + 1, by omega, by go_num, hr3, ho3⟩
          case measure => simp [intOf]; omega
        · have hcr := Lib.hid (show crS keep k s = { now := s.now, kept := s.now, waits := false } from if_neg (fun q => q.elim (fun q => hkk q) hz))
          have hzb : (keep.getD k 0 == 0) = false := by rw [beq_eq_false_iff_ne]; exact hz
          generalize keep.getD k 0 = kv at *
          clear hz
          go_wp2_with (go_at_call 44; refine HS2.out.mono ?_; rintro e w2 ⟨rfl, hr2, ho2⟩)
          have hr3 : SRow w2 b (crK d.l keep (k + 1)) := by rw [← HE4.out, hcr.out]; exact hr2
          have ho3 := HO.out.trans ho2
          clear hr2 ho2
          go_wp2
          go_roundw
          case rel => exact ⟨k + 1, by omega, by go_num, hr3, ho3⟩
          case measure => simp [intOf]; omega
    · obtain rfl : k = (wlL d.ws).length := by omega
      have hkI : ¬ ((wlL d.ws).length : Int) < ((wlL d.ws).length : Int) := by omega
      have q1 : wr.cell? ⟨g, 1, none⟩ = some (.bool d.dead) := kr.cell 1
      have q2 : wr.cell? ⟨g, 2, none⟩ = some (.bool d.fused) := kr.cell 2
      have q3 : wr.cell? ⟨g, 3, none⟩ = some (.int .i64 d.burns) := kr.cell 3
      have f1 := kr.frozen 1
      have f2 := kr.frozen 2
      have f3 := kr.frozen 3
      have r2 : (wr.setCell ⟨g, 1, none⟩ (.bool false)).cell? ⟨g, 2, none⟩ = some (.bool d.fused) := ((kr.set_ 1 (.bool false)).cell 2)
      have r3 : ((wr.setCell ⟨g, 1, none⟩ (.bool false)).setCell ⟨g, 2, none⟩ (.bool false)).cell? ⟨g, 3, none⟩ = some (.int .i64 d.burns) := (((kr.set_ 1 (.bool false)).set_ 2 (.bool false)).cell 3)
      have hO3 : Only [g] wr (((wr.setCell ⟨g, 1, none⟩ (.bool false)).setCell ⟨g, 2, none⟩ (.bool false)).setCell ⟨g, 3, none⟩ (.int .i64 0)) := ((Only.setCell _ _ (by simp) _).trans (Only.setCell _ _ (by simp) _)).trans (Only.setCell _ _ (by simp) _)
      have HF := Lib.hid (show Dev (((wr.setCell ⟨g, 1, none⟩ (.bool false)).setCell ⟨g, 2, none⟩ (.bool false)).setCell ⟨g, 3, none⟩ (.int .i64 0)) g b (d.crash keep) ∧ Only [g, b] w (((wr.setCell ⟨g, 1, none⟩ (.bool false)).setCell ⟨g, 2, none⟩ (.bool false)).setCell ⟨g, 3, none⟩ (.int .i64 0)) from by
        refine ⟨⟨⟨cap, by show (crashL d.l keep).length ≤ cap; unfold crashL; rw [List.length_mapIdx]; exact h1, h2, ?_⟩, ?_, by show 1 ≤ (crashL d.l keep).length ∧ (crashL d.l keep).length ≤ 16384; unfold crashL; rw [List.length_mapIdx]; exact hpos, ?_⟩, ?_⟩
        · show Blk _ g _ #[.slice (some ⟨b, 0, none⟩) (crashL d.l keep).length cap, _, _, _, _]
          unfold crashL; rw [List.length_mapIdx]
          exact ((kr.set_ 1 (.bool false)).set_ 2 (.bool false)).set_ 3 (.int .i64 0)
        · rw [show crK d.l keep (wlL d.ws).length = crashL d.l keep from crK_all d.l keep] at hr
          exact hr.only hO3 (by simp; exact fun e => hgb e.symm)
        · exact mapIdx_ok HOK.out fun i s _ q => crF_ok q
        · exact (Only.of_below _ HB1.out).trans ((ho.mono (by simp)).trans (hO3.mono (by simp))))
      clear hr kr ho hO3
      go_wp2
      go_ret
      exact ⟨rfl, HF.out⟩

end Go.Proofs.YtgfkejecigefbaaDoor

namespace Go.Proofs.YtgfkejecigefbaaDoor
open Go.RowKit
set_option linter.unusedVariables false

/-- What holds of each sector, as it is and as it was synced. -/
def AllP (d : DSt) (P : Nat → List Int → Prop) : Prop := ∀ i s, d.l[i]? = some s → P i s.now ∧ P i s.kept
theorem AllP.chg {d : DSt} {P : Nat → List Int → Prop} (h : AllP d P) : AllP d.chg P := by unfold AllP; rw [chg_l]; exact h
theorem AllP.mono {d : DSt} {P Q : Nat → List Int → Prop} (h : AllP d P) (hq : ∀ i p, P i p → Q i p) : AllP d Q := fun i s hi => ⟨hq _ _ (h i s hi).1, hq _ _ (h i s hi).2⟩
theorem AllP.wrote {d : DSt} {P : Nat → List Int → Prop} (h : AllP d P) {i : Nat} {p : List Int} (hp : P i p) : AllP (d.wrote i p) P := by
  unfold DSt.wrote
  split
  · split
    · exact h.chg
    · intro j s hj
      cases hq : d.l[j]? with
      | none => rw [List.getElem?_modify, hq] at hj; cases hj
      | some s0 =>
        rw [List.getElem?_modify, hq] at hj
        have h0 := h j s0 hq
        by_cases e : i = j
        · subst e
          have e2 : s0.wrote p = s := by simpa using hj
          subst e2
          exact ⟨hp, h0.2⟩
        · have e2 : s0 = s := by simpa [e] using hj
          subst e2
          exact h0
  · exact h
theorem AllP.synced {d : DSt} {P : Nat → List Int → Prop} (h : AllP d P) : AllP d.synced P := by
  unfold DSt.synced
  split
  · exact h.chg
  · intro j s hj
    rw [List.getElem?_mapIdx] at hj
    cases hq : d.l[j]? with
    | none => rw [hq] at hj; cases hj
    | some s0 =>
      rw [hq] at hj
      cases hj
      exact ⟨(h j s0 hq).1, (h j s0 hq).1⟩
theorem AllP.fuse {d : DSt} {P : Nat → List Int → Prop} (h : AllP d P) (n : Int) : AllP (d.fuse n) P := by
  unfold DSt.fuse
  split
  · exact h
  · exact h
theorem AllP.crash {d : DSt} {P : Nat → List Int → Prop} (h : AllP d P) (keep : List Int) : AllP (d.crash keep) P := by
  intro j s hj
  have hj : (crashL d.l keep)[j]? = some s := hj
  unfold crashL at hj
  rw [List.getElem?_mapIdx] at hj
  cases hq : d.l[j]? with
  | none => rw [hq] at hj; cases hj
  | some s0 =>
    rw [hq] at hj
    cases hj
    have h0 := h j s0 hq
    unfold crF
    split
    · unfold crS
      split
      · exact ⟨h0.2, h0.2⟩
      · exact ⟨h0.1, h0.1⟩
    · exact h0
theorem crash_settled {d : DSt} (h : ∀ s ∈ d.l, s.ok) (keep : List Int) : ∀ s ∈ (d.crash keep).l, s.now = s.kept := by
  intro s hs
  obtain ⟨i, hi, rfl⟩ := List.mem_mapIdx.1 (show s ∈ crashL d.l keep from hs)
  have h0 := h _ (List.getElem_mem hi)
  unfold crF
  split
  · unfold crS
    split <;> rfl
  · rename_i hw
    refine h0.2.2.2.2 ?_
    simpa using hw
theorem AllP.putW {P : Nat → List Int → Prop} : ∀ (ss : List (List Int)) (i : Nat) (d : DSt), AllP d P → (∀ j p, ss[j]? = some p → P (i + j) p) → AllP (putW ss i d).1 P
  | [], i, d, h, _ => h.synced
  | s :: r, i, d, h, hp => by
    rw [Go.Proofs.YtgfkejecigefbaaDoor.putW]
    split
    · exact AllP.putW r (i + 1) _ (h.wrote (hp 0 s rfl)) (fun j p hj => by
        have := hp (j + 1) p (by simpa using hj)
        rwa [show i + 1 + j = i + (j + 1) by omega])
    · exact h.wrote (hp 0 s rfl)
theorem AllP.wipe {P : Nat → List Int → Prop} : ∀ (ss : List (List Int)) (i : Nat) (x : Bool) (d : DSt), AllP d P → (∀ j, i ≤ j → P j zS) → AllP (wipeD ss i x d).1 P
  | [], i, x, d, h, _ => by
    rw [wipeD]
    split
    · exact h.synced
    · exact h
  | s :: r, i, x, d, h, hp => by
    rw [wipeD]
    split
    · exact AllP.wipe r (i + 1) x d h (fun j hj => hp j (by omega))
    · split
      · exact AllP.wipe r (i + 1) true _ (h.wrote (hp i (Nat.le_refl _))) (fun j hj => hp j (by omega))
      · exact h.wrote (hp i (Nat.le_refl _))

theorem chgE_or (d : DSt) : d.chgE = 0 ∨ d.chgE = 70 := by unfold DSt.chgE; split <;> simp
theorem wrE_or (d : DSt) {i : Nat} {s : List Int} (hi : i < d.l.length) (hs : s.length = 64) : d.wrE i s = 0 ∨ d.wrE i s = 70 := by
  unfold DSt.wrE DSt.has
  rw [if_pos (decide_eq_true (by omega)), if_pos hs]
  exact chgE_or d
theorem putW_or : ∀ (ss : List (List Int)) (i : Nat) (d : DSt), (∀ p ∈ ss, p.length = 64) → i + ss.length ≤ d.l.length → (putW ss i d).2 = 0 ∨ (putW ss i d).2 = 70
  | [], i, d, _, _ => chgE_or d
  | s :: r, i, d, h64, hl => by
    rw [List.length_cons] at hl
    rw [putW]
    split
    · exact putW_or r (i + 1) _ (fun p hp => h64 p (by simp [hp])) (by rw [wrote_len]; omega)
    · exact wrE_or d (by omega) (h64 s (by simp))
theorem wipeD_or : ∀ (ss : List (List Int)) (i : Nat) (x : Bool) (d : DSt), i + ss.length ≤ d.l.length → (wipeD ss i x d).2 = 0 ∨ (wipeD ss i x d).2 = 70
  | [], i, x, d, _ => by
    rw [wipeD]; split
    · exact chgE_or d
    · exact .inl rfl
  | s :: r, i, x, d, hl => by
    rw [List.length_cons] at hl
    rw [wipeD]
    split
    · exact wipeD_or r (i + 1) x d (by omega)
    · split
      · exact wipeD_or r (i + 1) true _ (by rw [wrote_len]; omega)
      · exact wrE_or d (by omega) zS_len
theorem wipeD_calm : ∀ (ss : List (List Int)) (i : Nat) (x : Bool) (d : DSt), d.calm → i + ss.length ≤ d.l.length → (wipeD ss i x d).2 = 0
  | [], i, x, d, h, _ => by
    rw [wipeD]; split
    · exact h.chgE
    · rfl
  | s :: r, i, x, d, h, hl => by
    rw [List.length_cons] at hl
    rw [wipeD]
    split
    · exact wipeD_calm r (i + 1) x d h (by omega)
    · rw [if_pos (h.wrE (by omega) zS_len)]
      exact wipeD_calm r (i + 1) true _ (h.wrote _ _) (by rw [wrote_len]; omega)

/-- Sectors laid over others. -/
def overP (i : Nat) (ss : List (List Int)) (P : Nat → List Int → Prop) : Nat → List Int → Prop := fun j q => if i ≤ j ∧ j < i + ss.length then ss[j - i]? = some q else P j q
def NowP (d : DSt) (P : Nat → List Int → Prop) : Prop := ∀ i s, d.l[i]? = some s → P i s.now
theorem chgE_stops {d : DSt} (h : d.chgE = 0) : d.stops = false := by
  unfold DSt.chgE at h
  split at h
  · cases h
  · rename_i hs; simpa using hs
theorem NowP.wrote {d : DSt} {P : Nat → List Int → Prop} (h : NowP d P) {i : Nat} {p : List Int} (he : d.wrE i p = 0) : NowP (d.wrote i p) (fun j q => if j = i then q = p else P j q) := by
  have hh : d.has (i : Int) = true ∧ p.length = 64 ∧ d.chgE = 0 := by
    unfold DSt.wrE at he
    split at he
    · split at he
      · exact ⟨by assumption, by assumption, he⟩
      · cases he
    · cases he
  unfold DSt.wrote
  rw [if_pos ⟨hh.1, hh.2.1⟩, if_neg (by rw [chgE_stops hh.2.2]; decide)]
  intro j s hj
  cases hq : d.l[j]? with
  | none => rw [List.getElem?_modify, hq] at hj; cases hj
  | some s0 =>
    rw [List.getElem?_modify, hq] at hj
    have h0 := h j s0 hq
    by_cases e : i = j
    · subst e
      have e2 : s0.wrote p = s := by simpa using hj
      subst e2
      rw [if_pos rfl]; rfl
    · have e2 : s0 = s := by simpa [e] using hj
      subst e2
      rw [if_neg (fun q => e q.symm)]; exact h0
theorem putW_exact : ∀ (ss : List (List Int)) (i : Nat) (d : DSt) (P : Nat → List Int → Prop), NowP d P → (putW ss i d).2 = 0 → AllP (putW ss i d).1 (overP i ss P)
  | [], i, d, P, h, he => by
    have he : d.chgE = 0 := he
    show AllP d.synced _
    unfold DSt.synced
    rw [if_neg (by rw [chgE_stops he]; decide)]
    intro j s hj
    rw [List.getElem?_mapIdx] at hj
    cases hq : d.l[j]? with
    | none => rw [hq] at hj; cases hj
    | some s0 =>
      rw [hq] at hj
      cases hj
      have h0 := h j s0 hq
      have hn : ¬ (i ≤ j ∧ j < i + ([] : List (List Int)).length) := by simp
      unfold overP
      rw [if_neg hn, if_neg hn]
      exact ⟨h0, h0⟩
  | s :: r, i, d, P, h, he => by
    rw [putW] at he ⊢
    split at he
    · rename_i hw
      rw [if_pos hw]
      refine (putW_exact r (i + 1) _ _ (h.wrote hw) he).mono fun j q hq => ?_
      unfold overP at hq ⊢
      rw [List.length_cons]
      by_cases h1 : i + 1 ≤ j ∧ j < i + 1 + r.length
      · rw [if_pos h1] at hq
        rw [if_pos (by omega), show j - i = (j - (i + 1)) + 1 by omega, List.getElem?_cons_succ]
        exact hq
      · rw [if_neg h1] at hq
        by_cases h2 : j = i
        · rw [if_pos h2] at hq
          rw [if_pos (by omega), h2, Nat.sub_self, hq]; rfl
        · rw [if_neg h2] at hq
          rw [if_neg (by omega)]; exact hq
    · exact absurd he (by assumption)

end Go.Proofs.YtgfkejecigefbaaDoor

namespace Go.Proofs.YtgfkejecigefbaaDoor
open Go.RowKit
set_option linter.unusedVariables false

theorem range_succ_map {α : Type} (f : Nat → α) (n : Nat) : (List.range (n + 1)).map f = f 0 :: (List.range n).map fun k => f (k + 1) := by
  rw [List.range_succ_eq_map, List.map_cons, List.map_map]; rfl
theorem cut64_cons {x : List Int} (h : 0 < x.length) : cut64 x = padTo 64 (x.take 64) :: cut64 (x.drop 64) := by
  have e : parts64 x.length = parts64 (x.drop 64).length + 1 := by rw [List.length_drop]; unfold parts64; omega
  unfold cut64
  rw [e, range_succ_map]
  congr 1
  · unfold pieceI; rw [Nat.mul_zero, List.drop_zero, padTo_take]
  · refine List.map_congr_left fun k _ => ?_
    unfold pieceI
    rw [List.drop_drop]
    congr 2
    omega
theorem cut64_nil : cut64 [] = [] := rfl
/-- The sectors' bytes begin with the text. -/
theorem cut64_flat : ∀ (n : Nat) (x : List Int), x.length ≤ n → (cut64 x).flatten.take x.length = x
  | 0, x, h => by
    obtain rfl : x = [] := List.eq_nil_of_length_eq_zero (by omega)
    rfl
  | n + 1, x, h => by
    by_cases h0 : 0 < x.length
    · rw [cut64_cons h0, List.flatten_cons]
      by_cases h1 : x.length ≤ 64
      · have hd : x.drop 64 = [] := List.drop_eq_nil_of_le h1
        rw [hd, cut64_nil, List.flatten_nil, List.append_nil]
        unfold padTo
        rw [List.take_take, Nat.min_self, List.take_of_length_le h1, List.take_append_of_le_length (Nat.le_refl _), List.take_length]
      · have ih := cut64_flat n (x.drop 64) (by rw [List.length_drop]; omega)
        have hl : (padTo 64 (x.take 64)).length = 64 := padTo_len _ _
        have hp : padTo 64 (x.take 64) = x.take 64 := by
          unfold padTo
          rw [List.take_take, Nat.min_self, List.length_take, Nat.min_eq_left (by omega)]
          simp
        rw [List.take_append, hl, List.take_of_length_le (by rw [hl]; omega), hp]
        rw [List.length_drop] at ih
        rw [ih, List.take_append_drop]
    · obtain rfl : x = [] := List.eq_nil_of_length_eq_zero (by omega)
      rfl

theorem textS_first {n : Int} {bs : List Int} {R : List (List Int)} : ((laidI n bs ++ R).getD 0 []) = padTo 64 (headT n bs) := by
  unfold laidI textS
  rw [cut64_cons (by rw [headT_len]; omega)]
  show padTo 64 ((headT n bs).take 64) = _
  exact padTo_take _ _
theorem lenAt_first {p : List Int} {R img : List (List Int)} {n : Int} {bs : List Int} (hl : bs.length ≤ 4000) (h : img.getD 0 [] = padTo 64 (headT n bs)) : lenAt img = bs.length := by
  unfold lenAt
  rw [h]
  have e : ((padTo 64 (headT n bs)).drop 8).take 4 = fourI bs.length := by
    have hh : headT n bs = numI n ++ (fourI bs.length ++ bs) := rfl
    have hlen := headT_len n bs
    unfold padTo
    have h12 : ((headT n bs).take 64).drop 8 = (fourI (bs.length : Nat) ++ bs).take 56 := by
      rw [List.drop_take, hh, List.drop_append_of_le_length (by rw [numI_len]; exact Nat.le_refl _), show (numI n).drop 8 = [] from List.drop_eq_nil_of_le (by rw [numI_len]; exact Nat.le_refl _)]
      rfl
    rw [List.drop_append_of_le_length (by rw [List.length_take]; omega), h12, List.take_append_of_le_length (by rw [List.length_take, List.length_append, fourI_len]; omega), List.take_take, Nat.min_eq_left (by omega), List.take_append_of_le_length (by rw [fourI_len]; exact Nat.le_refl _), List.take_of_length_le (by rw [fourI_len]; exact Nat.le_refl _)]
  rw [e]
  exact valI_four _ (by omega) (by omega)
theorem secsOf_len {bs : List Int} (hl : bs.length ≤ 4000) : secsOf (bs.length : Nat) = (75 + bs.length) / 64 := by unfold secsOf; omega
theorem body_laid {n : Int} {bs : List Int} {R : List (List Int)} (hl : bs.length ≤ 4000) : bodyI (laidI n bs ++ R) = bs := by
  have h1 : lenAt (laidI n bs ++ R) = bs.length := lenAt_first (p := []) (R := R) hl textS_first
  unfold bodyI
  rw [h1, secsOf_len hl]
  have h2 : (laidI n bs ++ R).take ((75 + bs.length) / 64) = textS n bs := by
    unfold laidI
    rw [← textS_len n bs, List.append_assoc, List.take_left]
  rw [h2]
  have h3 := cut64_flat _ (headT n bs) (Nat.le_refl _)
  have h4 : (textS n bs).flatten.length = 64 * ((75 + bs.length) / 64) := by rw [flat64_len (textS_64 n bs), textS_len]
  have h5 : ((textS n bs).flatten.drop 12).take bs.length = ((textS n bs).flatten.take (12 + bs.length)).drop 12 := by rw [List.drop_take]; congr 1; omega
  show ((textS n bs).flatten.drop 12).take ((bs.length : Int)).toNat = bs
  rw [Int.toNat_natCast, h5]
  have h6 : (textS n bs).flatten.take (12 + bs.length) = headT n bs := by rw [← headT_len n bs]; exact h3
  rw [h6]
  show (numI n ++ (fourI bs.length ++ bs)).drop 12 = bs
  rw [← List.append_assoc, List.drop_left' (by rw [List.length_append, numI_len, fourI_len])]
/-- A record's sectors are read. -/
theorem next_laid {n : Int} {bs : List Int} {R : List (List Int)} (h1 : 1 ≤ bs.length) (hl : bs.length ≤ 4000) : nextI (laidI n bs ++ R) n = some (bs, (laidI n bs).length) := by
  have hb := body_laid (n := n) (R := R) hl
  have ha : lenAt (laidI n bs ++ R) = bs.length := lenAt_first (p := []) (R := R) hl textS_first
  unfold nextI nextOk
  rw [hb, decide_eq_true ⟨⟨by rw [ha]; omega, by rw [ha]; omega, by rw [ha, secsOf_len hl, List.length_append, laidI_len]; omega⟩, by rw [List.take_left]⟩]
  rfl
/-- Where the mark is missing, nothing is read. -/
def Torn (TX Y : List (List Int)) : Prop := ∀ (i : Nat) (p : List Int), Y[i]? = some p → p = zS ∨ TX[i]? = some p
theorem mark_not_zero (n : Int) (t : List (List Int)) : pieceI (markB n t) 0 ≠ zS := by
  intro e
  have h : (pieceI (markB n t) 0)[0]? = some 65 := by
    unfold pieceI padTo markB alB
    rfl
  rw [e] at h
  unfold zS at h
  rw [List.getElem?_replicate, if_pos (by omega)] at h
  cases h
theorem next_torn {n : Int} {bs : List Int} {Y : List (List Int)} (hl : bs.length ≤ 4000) (hY : Torn (textS n bs) Y) (h64 : ∀ p ∈ Y, p.length = 64) : nextI Y n = none := by
  unfold nextI
  rw [if_neg]
  intro hk
  unfold nextOk at hk
  rw [decide_eq_true_eq] at hk
  obtain ⟨hf, he⟩ := hk
  obtain ⟨f1, f2, f3⟩ := hf
  have hp : 0 < Y.length := by omega
  have hbl := bodyI_len h64 ⟨f1, f2, f3⟩
  -- the first sector is the text's own
  have h0 : Y[0]? = some (Y.getD 0 []) := by rw [List.getD_eq_getElem?_getD, List.getElem?_eq_getElem hp]; rfl
  have hla : lenAt Y = bs.length := by
    rcases hY 0 _ h0 with hz | ht
    · exfalso
      have : lenAt Y = 0 := by unfold lenAt; rw [hz]; decide
      omega
    · refine lenAt_first (p := []) (R := []) (n := n) hl ?_
      unfold textS at ht
      rw [cut64_cons (by rw [headT_len]; omega)] at ht
      have ht : padTo 64 ((headT n bs).take 64) = Y.getD 0 [] := by simpa using ht
      rw [← ht, padTo_take]
  have hbb : (bodyI Y).length = bs.length := by rw [hbl, hla]; simp
  have hT : (textS n (bodyI Y)).length = (75 + bs.length) / 64 := by rw [textS_len, hbb]
  have hm : (laidI n (bodyI Y))[(75 + bs.length) / 64]? = some (pieceI (markB n (textS n (bodyI Y))) 0) := by
    unfold laidI
    rw [List.getElem?_append_right (by rw [hT]; exact Nat.le_refl _), hT, Nat.sub_self]
    unfold cut64
    rw [show parts64 (markB n (textS n (bodyI Y))).length = 1 from by rw [markB_len]; decide]
    rfl
  rw [he] at hm
  have hm2 : Y[(75 + bs.length) / 64]? = some (pieceI (markB n (textS n (bodyI Y))) 0) := by
    rw [List.getElem?_take] at hm
    split at hm
    · exact hm
    · cases hm
  rcases hY _ _ hm2 with hz | ht
  · exact mark_not_zero _ _ hz
  · rw [List.getElem?_eq_none (by rw [textS_len]; exact Nat.le_refl _)] at ht
    cases ht

end Go.Proofs.YtgfkejecigefbaaDoor

namespace Go.Proofs.YtgfkejecigefbaaDoor
open Go.RowKit
set_option linter.unusedVariables false

/-- Noughts up to a sector's end. -/
def padUp (xs : List Int) : List Int := xs ++ List.replicate ((64 - xs.length % 64) % 64) 0
theorem padUp_cut : ∀ (n : Nat) (x : List Int), x.length ≤ n → (cut64 x).flatten = padUp x
  | 0, x, h => by
    obtain rfl : x = [] := List.eq_nil_of_length_eq_zero (by omega)
    rfl
  | n + 1, x, h => by
    by_cases h0 : 0 < x.length
    · rw [cut64_cons h0, List.flatten_cons]
      by_cases h1 : x.length ≤ 64
      · have hd : x.drop 64 = [] := List.drop_eq_nil_of_le h1
        rw [hd, cut64_nil, List.flatten_nil, List.append_nil, padTo_take]
        unfold padTo padUp
        rw [List.take_of_length_le h1]
        congr 2
        omega
      · have ih := padUp_cut n (x.drop 64) (by rw [List.length_drop]; omega)
        have hp : padTo 64 (x.take 64) = x.take 64 := by
          unfold padTo
          rw [List.take_take, Nat.min_self, List.length_take, Nat.min_eq_left (by omega)]
          simp
        rw [ih, hp]
        unfold padUp
        rw [← List.append_assoc, List.take_append_drop, List.length_drop]
        congr 2
        omega
    · obtain rfl : x = [] := List.eq_nil_of_length_eq_zero (by omega)
      rfl
theorem text_flat (n : Int) (bs : List Int) : (textS n bs).flatten = padUp (headT n bs) := padUp_cut _ _ (Nat.le_refl _)
theorem mark_flat (n : Int) (t : List (List Int)) : (cut64 (markB n t)).flatten = padUp (markB n t) := padUp_cut _ _ (Nat.le_refl _)

set_option maxRecDepth 100000 in
set_option maxHeartbeats 1000000 in
theorem refNumber_own (n : Int) (w : World) (h0 : -9223372036854775808 ≤ n) (h1 : n ≤ 9223372036854775807) :
    Calls Tryd.prog 118 #[.int .i64 n] w fun e w' => ∃ x, e = .returned x ∧ w'.ownsRow w.heap.size 5 1 x 8 ((numI n).map (Value.int .u8)) ∧ Below w.heap.size w w' := by
  obtain ⟨i0, hi, hz0, hz1, hz2⟩ := info_parts info8
  have hone : ∀ xs : List Int, ∀ u ∈ xs.map (Value.int .u8), u.oneCell' = true := fun xs u hu => by obtain ⟨x, _, rfl⟩ := List.mem_map.1 hu; rfl
  go_enter Tryd.func118, Tryd.ntmps118
  go_wp2
  go_loopw [3, 4] (fun v i wr => ∃ k : Nat, k ≤ 8 ∧ i = .int .i64 (56 - 8 * (k : Int)) ∧ wr.ownsRow w.heap.size 5 1 v k (((numI n).take k).map (Value.int .u8)) ∧ Below w.heap.size w wr) (fun _ i _ => (intOf i + 8).toNat)
  case atStart => exact ⟨0, by omega, rfl, World.ownsRow_nil _ _ _ _, Below.refl _ _⟩
  case round =>
    obtain ⟨k, hk, rfl, hown, hbr⟩ := hrel
    have hsz := hbr.size
    by_cases h8 : k < 8
    · have hsh := shr_num n k h8
      have hI8 : (0 : Int) ≤ 56 - 8 * (k : Int) := by omega
      have hux : 0 ≤ IntKind.u64.wrap n ∧ IntKind.u64.wrap n ≤ 18446744073709551615 := by rw [IntKind.wrap_u64]; omega
      have hsn : ((numI n).take (k + 1)).map (Value.int .u8) = ((numI n).take k).map (Value.int .u8) ++ [Value.int .u8 (n / 256 ^ (7 - k) % 256)] := by
        rw [List.take_succ_eq_append_getElem (by simp [numI]; omega), List.map_append]
        simp [numI]
      have HSN := Lib.hid hsn
      clear hsn
      rw [← hsh] at HSN
      clear hsh hux
      go_wp2_with (at_builtin; refine wpList_append_sl rfl _ _ 26 rfl w.heap.size 5 i0 (.int .u8 0) 1 Tryd.underlying26 hi hz0 hz1 hz2 rfl _ _ _ rfl (hown.alloc _) (.slice (some ⟨wr.heap.size, 0, none⟩) 1 1) ([IntKind.u64.wrap n / 2 ^ (56 - 8 * k) % 256].map (Value.int .u8)) rfl (Sl.litL wr ([IntKind.u64.wrap n / 2 ^ (56 - 8 * k) % 256].map (Value.int .u8)) _ (by simp [maxLen])) (hone _) (by simp only [List.length_map, List.length_cons, List.length_nil]; unfold maxLen; omega) (by simp only [List.length_map, List.length_cons, List.length_nil]; omega) (by simp; omega) ?_)
      intro v3 w6 hown3 hg6
      have hb6 := below_append hbr hown (Nat.le_refl _) hsz hg6
      clear hg6 hown
      go_wp2
      go_roundw
      case rel =>
        refine ⟨k + 1, by omega, by go_num, ?_, hb6⟩
        rw [HSN.out, List.map_take]
        exact hown3
      case measure => simp [intOf]; omega
    · have hI8 : ¬ (0 : Int) ≤ 56 - 8 * (k : Int) := by omega
      have hk8 : k = 8 := by omega
      rw [hk8, List.take_of_length_le (by simp [numI])] at hown
      go_wp2
      go_ret
      exact ⟨_, rfl, hown, hbr⟩

set_option maxHeartbeats 400000 in
theorem rfour_any (n : Int) (w : World) (h0 : -9223372036854775808 ≤ n) (h1 : n ≤ 9223372036854775807) :
    Calls Tryd.prog 119 #[.int .i64 n] w fun e w' => ∃ x, e = .returned x ∧ Sl w' x ((fourI n).map (Value.int .u8)) ∧ Below w.heap.size w w' := by
  have HN := Lib.hid (refNumber_any n w h0 h1)
  go_enter Tryd.func119, Tryd.ntmps119
  go_wp2_with fail
  refine HN.out.mono ?_
  rintro e w1 ⟨x, rfl, hx, hb⟩
  obtain ⟨a, c, rfl, hc, hm⟩ := hx.shape
  rw [List.length_map, numI_len] at *
  have HX := Lib.hid hx
  have HB := Lib.hid hb
  clear hx hb
  go_wp2_with (refine wpList_from rfl _ _ 26 5 rfl Tryd.underlying26 size8 _ 4 _ rfl HX.out rfl (by simp [numI_len]) ?_)
  intro ad cap h4
  have H4 := Lib.hid h4
  clear h4
  go_wp2
  go_ret
  exact ⟨_, rfl, by have h := H4.out; rw [← List.map_drop] at h; exact h, HB.out⟩

set_option maxRecDepth 100000 in
set_option maxHeartbeats 1000000 in
theorem padded_own (base : Nat) (v : Value) (bs : List Int) (w : World) (hl : bs.length ≤ 1000000) (hbase : base ≤ w.heap.size) (h : w.ownsRow base 5 1 v bs.length (bs.map (Value.int .u8))) :
    Calls Tryd.prog 117 #[v] w fun e w' => ∃ x, e = .returned x ∧ w'.ownsRow base 5 1 x (padUp bs).length ((padUp bs).map (Value.int .u8)) ∧ Below base w w' := by
  obtain ⟨i0, hi, hz0, hz1, hz2⟩ := info_parts info8
  have HO := Lib.hid h
  obtain ⟨a, c, hv, hvc⟩ := (Sl.of_owns h).shape
  rw [List.length_map] at hv hvc
  subst hv
  have HPD := Lib.hid (show padUp bs = bs ++ List.replicate ((64 - bs.length % 64) % 64) 0 from rfl)
  obtain ⟨J, hJ⟩ : ∃ J, (64 - bs.length % 64) % 64 = J := ⟨_, rfl⟩
  have HJ := Lib.hid (show (bs.length + J) % 64 = 0 ∧ J < 64 ∧ ∀ j, j < J → (bs.length + j) % 64 ≠ 0 from ⟨by omega, by omega, fun j hj => by omega⟩)
  rw [hJ] at HPD
  clear h hJ hvc
  go_enter Tryd.func117, Tryd.ntmps117
  go_wp2
  go_loopw [0] (fun x wr => ∃ (j n : Nat), j ≤ J ∧ Hid (n = bs.length + j) ∧ wr.ownsRow base 5 1 x n ((bs ++ List.replicate j 0).map (Value.int .u8)) ∧ Below base w wr) (fun x _ => match x with | .slice _ n _ => bs.length + J - n | _ => 0)
  case atStart => exact ⟨0, bs.length, by omega, Lib.hid rfl, by simpa using HO.out, Below.refl _ _⟩
  case round =>
    obtain ⟨j, n, hj, hn, hown, hbr⟩ := hrel
    obtain ⟨xa, xc, hx, hxc⟩ := (Sl.of_owns hown).shape
    rw [List.length_map, List.length_append, List.length_replicate, ← hn.out] at hx hxc
    subst hx
    by_cases hlt : j < J
    · have hne : (((n : Int) % 64) == 0) = false := by
        rw [beq_eq_false_iff_ne]
        have := HJ.out.2.2 j hlt
        have := hn.out
        omega
      have HOW := Lib.hid hown
      have HBR := Lib.hid hbr
      have HSZ := Lib.hid (Nat.le_trans hbase hbr.size)
      have hnl := hn.out
      have HNL := Lib.hid (show n ≤ 1000064 from by have := HJ.out.2.1; omega)
      clear hown hbr hnl hxc
      have hone : ∀ u ∈ ([0] : List Int).map (Value.int .u8), u.oneCell' = true := fun u hu => by obtain ⟨x, _, rfl⟩ := List.mem_map.1 hu; rfl
      go_wp2_with (at_builtin; refine wpList_append_sl rfl _ _ 26 rfl base 5 i0 (.int .u8 0) 1 Tryd.underlying26 hi hz0 hz1 hz2 rfl (.slice xa n xc) n _ rfl (HOW.out.alloc _) (.slice (some ⟨wr.heap.size, 0, none⟩) 1 1) (([0] : List Int).map (Value.int .u8)) rfl (Sl.litL wr (([0] : List Int).map (Value.int .u8)) _ (by simp [maxLen])) hone (by have := HNL.out; simp; unfold maxLen; omega) (by have := HNL.out; simp; omega) (by have := HSZ.out; simp; omega) ?_)
      intro v3 w6 hown3 hg6
      have hb6 := below_append HBR.out HOW.out (Nat.le_refl _) HSZ.out hg6
      have HOW3 := Lib.hid (show w6.ownsRow base 5 1 v3 (n + 1) ((bs ++ List.replicate (j + 1) 0).map (Value.int .u8)) from by
        have e : (bs ++ List.replicate (j + 1) (0 : Int)).map (Value.int .u8) = bs.map (Value.int .u8) ++ (List.replicate j (Value.int .u8 0) ++ [Value.int .u8 0]) := by simp [List.replicate_succ']
        rw [e]; exact hown3)
      obtain ⟨g3, xc3, hx3, _⟩ := hown3.form (by omega)
      obtain ⟨n3, hn3⟩ : ∃ n3, n3 = n + 1 := ⟨_, rfl⟩
      have HN3 := Lib.hid hn3
      rw [← hn3] at hx3
      subst hx3
      clear hown3 hg6 hn3
      go_wp2
      go_roundw
      case rel => exact ⟨j + 1, n3, hlt, Lib.hid (by rw [HN3.out, hn.out]; omega), by rw [HN3.out]; rw [HN3.out] at HOW3; exact HOW3.out, hb6⟩
      case measure => show bs.length + J - n3 < bs.length + J - n; have h1 := HN3.out; have h2 := hn.out; omega
    · obtain rfl : j = J := by omega
      have heq : (((n : Int) % 64) == 0) = true := by
        rw [beq_iff_eq]
        have := HJ.out.1
        have := hn.out
        omega
      have HOW := Lib.hid hown
      have HBR := Lib.hid hbr
      clear hown hbr hxc
      go_wp2
      go_ret
      refine ⟨_, rfl, ?_, HBR.out⟩
      rw [HPD.out]
      have h := HOW.out
      rw [hn.out] at h
      rw [List.length_append, List.length_replicate]
      rw [hn.out]
      exact h

theorem own8 {w : World} {base : Nat} {v : Value} {n : Nat} {L : List Value} {ys : List Int} (h : w.ownsRow base 5 1 v n L) (e : L = ys.map (Value.int .u8)) : w.ownsRow base 5 1 v ys.length (ys.map (Value.int .u8)) := by
  subst e
  have := h.1
  rw [List.length_map, Nat.mul_one] at this
  rw [this]; exact h
set_option maxRecDepth 100000 in
set_option maxHeartbeats 1000000 in
theorem rtext_own (n : Int) (v : Value) (bs : List Int) (w : World) (h0 : -9223372036854775808 ≤ n) (h1 : n ≤ 9223372036854775807) (hl : bs.length ≤ 4000) (h : Sl w v (bs.map (Value.int .u8))) :
    Calls Tryd.prog 90 #[.int .i64 n, v] w fun e w' => ∃ x, e = .returned x ∧ w'.ownsRow w.heap.size 5 1 x (padUp (headT n bs)).length ((padUp (headT n bs)).map (Value.int .u8)) ∧ Below w.heap.size w w' := by
  obtain ⟨i0, hi, hz0, hz1, hz2⟩ := info_parts info8
  have hone : ∀ (xs : List Int), ∀ u ∈ xs.map (Value.int .u8), u.oneCell' = true := fun xs u hu => by obtain ⟨x, _, rfl⟩ := List.mem_map.1 hu; rfl
  have HH := Lib.hid h
  obtain ⟨a, c, rfl, hc, hm⟩ := h.shape
  rw [List.length_map] at *
  have HN := Lib.hid (refNumber_own n w h0 h1)
  have HHL := Lib.hid (headT_len n bs)
  have HHT := Lib.hid (show headT n bs = numI n ++ (fourI bs.length ++ bs) from rfl)
  have HLE := Lib.hid hl
  clear h hl
  go_enter Tryd.func90, Tryd.ntmps90
  go_wp2_with fail
  refine HN.out.mono ?_
  rintro e w1 ⟨x1, rfl, hx1, hb1⟩
  obtain ⟨a1, n1, c1, rfl⟩ := (Sl.of_owns hx1).val
  have HX1 := Lib.hid hx1
  have HB1 := Lib.hid hb1
  have HF := Lib.hid (rfour_any (bs.length : Nat) w1 (by omega) (by omega))
  clear hx1 hb1 HN
  go_wp2_with fail
  refine HF.out.mono ?_
  rintro e w2 ⟨x2, rfl, hx2, hb2⟩
  obtain ⟨a2, n2, c2, rfl⟩ := hx2.val
  have HX1 := Lib.hid (ownsRow_below HX1.out hb2 (Nat.le_refl _))
  have HB2 := Lib.hid (below_trans2 HB1.out hb2)
  have HX2 := Lib.hid hx2
  clear hx2 hb2 HF HB1
  go_wp2_with (at_builtin; refine wpList_append_sl rfl _ _ 26 rfl w.heap.size 5 i0 (.int .u8 0) 1 Tryd.underlying26 hi hz0 hz1 hz2 rfl (.slice a1 n1 c1) 8 _ rfl HX1.out (.slice a2 n2 c2) ((fourI (bs.length : Nat)).map (Value.int .u8)) rfl HX2.out (hone _) (by simp [fourI_len, maxLen]) (by simp [fourI_len]) HB2.out.size ?_)
  intro v3 w3 ho3 hg3
  have hb3 : Below w.heap.size w w3 := HB2.out.grown hg3 HB2.out.size (fun k hk => (HX1.out.lt k hk).1)
  obtain ⟨a3, n3, c3, rfl⟩ := (Sl.of_owns ho3).val
  have HO3 := Lib.hid (own8 (ys := numI n ++ fourI (bs.length : Nat)) ho3 (by simp))
  have HB3 := Lib.hid hb3
  have HV3 := Lib.hid (HH.out.below hb3 (Nat.le_refl _))
  clear ho3 hg3 hb3 HX1 HX2 HB2
  go_wp2_with (at_builtin; refine wpList_append_sl rfl _ _ 26 rfl w.heap.size 5 i0 (.int .u8 0) 1 Tryd.underlying26 hi hz0 hz1 hz2 rfl (.slice a3 n3 c3) _ _ rfl HO3.out (.slice a bs.length c) (bs.map (Value.int .u8)) rfl HV3.out (hone _) (by have := HLE.out; simp [fourI_len, numI_len, maxLen]; omega) (by have := HLE.out; simp [fourI_len, numI_len]; omega) HB3.out.size ?_)
  intro v4 w4 ho4 hg4
  have hb4 : Below w.heap.size w w4 := HB3.out.grown hg4 HB3.out.size (fun k hk => (HO3.out.lt k hk).1)
  obtain ⟨a4, n4, c4, rfl⟩ := (Sl.of_owns ho4).val
  have HO4 := Lib.hid (own8 (ys := headT n bs) ho4 (by rw [HHT.out]; simp))
  have HB4 := Lib.hid hb4
  have HPA := Lib.hid (padded_own w.heap.size _ (headT n bs) w4 (by rw [HHL.out]; have := HLE.out; omega) hb4.size HO4.out)
  clear ho4 hg4 hb4 HO3 HB3 HV3
  go_wp2_with fail
  refine HPA.out.mono ?_
  rintro e w5 ⟨x5, rfl, hx5, hb5⟩
  obtain ⟨a5, n5, c5, rfl⟩ := (Sl.of_owns hx5).val
  have HX5 := Lib.hid hx5
  have HB5 := Lib.hid (HB4.out.trans hb5)
  clear hx5 hb5
  go_wp2
  go_ret
  exact ⟨_, rfl, HX5.out, HB5.out⟩

end Go.Proofs.YtgfkejecigefbaaDoor

namespace Go.Proofs.YtgfkejecigefbaaDoor
open Go.RowKit
set_option linter.unusedVariables false

theorem wpList_append_ag {w : World} {ops : Array Oper} {rest : List Oper} {o : Oper} {a : Act} {Q : Exit → Act → World → Prop} (hw : Region.wanted o (yielded ops a.tmps) = true) (s x : Operand)
    (ho : o.op = .call { callee := .builtin .append, args := #[s, x], argTypes := #[26, 26] })
    (b : Addr) (n cap : Nat) (olds : List Int) (hs : a.eval s = .slice (some b) n cap) (hlo : olds.length = n) (holds : ∀ j u, (olds.map (Value.int .u8))[j]? = some u → w.cell? (b.add j) = some u)
    (u : Value) (ys : List Int) (hx : a.eval x = u) (hsl : Sl w u (ys.map (Value.int .u8))) (hp : 0 < ys.length) (hg : cap < n + ys.length) (h63 : n + ys.length ≤ 1000000)
    (h : ∀ v' w', w'.ownsRow w.heap.size 5 1 v' (n + ys.length) (olds.map (Value.int .u8) ++ ys.map (Value.int .u8)) → w.grownBy w' none → wpList Tryd.prog ops Q rest (a.put o.dst v') w') : wpList Tryd.prog ops Q (o :: rest) a w := by
  obtain ⟨i0, hi, hz0, hz1, hz2⟩ := info_parts info8
  obtain ⟨ad, c, rfl, h1, h2, h3⟩ := hsl
  rw [List.length_map] at *
  obtain ⟨b2, o2, rfl, hlt, hc⟩ := h3 hp
  obtain ⟨v', w', hrun, q1, q2⟩ := run_append_arg_grows (P := Tryd.prog) w 26 o.type 5 i0 (.int .u8 0) 1 1 Tryd.underlying26 hi hz0 hz1 hz2 rfl (by decide) b n cap (olds.map (Value.int .u8)) (by rw [List.length_map, hlo]; omega) holds ⟨b2, o2, none⟩ ys.length c (ys.map (Value.int .u8)) (by rw [List.length_map]; omega) (fun j y hy => by rw [add_plain0]; exact hc j y hy) hg (by unfold maxLen; omega) (by omega)
  refine wpList_step fun K hK => ?_
  rw [if_pos hw]
  unfold Oper.wp
  simp [execOp, ho, resolve, invoke, builtin, hs, hx, hrun, Result.andThen]
  exact hK _ _ (h v' w' q1 q2)

set_option maxRecDepth 100000 in
set_option maxHeartbeats 1000000 in
theorem rmark_own (n : Int) (v : Value) (ts : List Int) (w : World) (h0 : -9223372036854775808 ≤ n) (h1 : n ≤ 9223372036854775807) (hl : ts.length ≤ 5000) (hB : IsB ts) (h : Sl w v (ts.map (Value.int .u8))) :
    Calls Tryd.prog 91 #[.int .i64 n, v] w fun e w' => ∃ x, e = .returned x ∧ w'.ownsRow w.heap.size 5 1 x (padUp (markQ n (ts.length / 64) (sumI ts))).length ((padUp (markQ n (ts.length / 64) (sumI ts))).map (Value.int .u8)) ∧ Below w.heap.size w w' := by
  obtain ⟨i0, hi, hz0, hz1, hz2⟩ := info_parts info8
  have hone : ∀ (xs : List Int), ∀ u ∈ xs.map (Value.int .u8), u.oneCell' = true := fun xs u hu => by obtain ⟨x, _, rfl⟩ := List.mem_map.1 hu; rfl
  have HH := Lib.hid h
  have HBT := Lib.hid hB
  obtain ⟨a, c, rfl, hc, hm⟩ := h.shape
  rw [List.length_map] at *
  have HLE := Lib.hid hl
  have HSL := Lib.hid (sumI_len ts)
  have hbC : Below w.heap.size w (w.alloc (.cells #[.int .u8 65, .int .u8 76, .int .u8 0, .int .u8 0, .int .u8 0, .int .u8 0, .int .u8 0, .int .u8 0] 5 (8, 9))) := (Below.refl _ _).alloc (Nat.le_refl _) _
  have HSC := Lib.hid (show Sl (w.alloc (.cells #[.int .u8 65, .int .u8 76, .int .u8 0, .int .u8 0, .int .u8 0, .int .u8 0, .int .u8 0, .int .u8 0] 5 (8, 9))) (.slice (some ⟨w.heap.size, 0, none⟩) 8 8) (alB.map (Value.int .u8)) from Sl.litf w #[.int .u8 65, .int .u8 76, .int .u8 0, .int .u8 0, .int .u8 0, .int .u8 0, .int .u8 0, .int .u8 0] 5 (8, 9) (by simp [maxLen]))
  have HBC := Lib.hid hbC
  have HN := Lib.hid (refNumber_own n (w.alloc (.cells #[.int .u8 65, .int .u8 76, .int .u8 0, .int .u8 0, .int .u8 0, .int .u8 0, .int .u8 0, .int .u8 0] 5 (8, 9))) h0 h1)
  have kc := fun (w : World) (C : Array Value) (n c : Nat) => Lib.run_convert_bytes_const (P := Tryd.prog) w 26 5 C n c Tryd.underlying26 Tryd.underlying5
  have HTN := Lib.hid (sumI_isB ts)
  clear h hl hB hbC
  go_enter Tryd.func91, Tryd.ntmps91
  go_wp2_with fail
  refine HN.out.mono ?_
  rintro e w1 ⟨x1, rfl, hx1, hb1⟩
  obtain ⟨a1, n1, c1, rfl⟩ := (Sl.of_owns hx1).val
  have HX1 := Lib.hid (Sl.of_owns hx1)
  have HS1 := Lib.hid (HSC.out.below hb1 (Nat.le_refl _))
  have HB1 := Lib.hid (below_trans2 HBC.out hb1)
  clear hx1 hb1 HN kc
  go_wp2_with (at_builtin; refine wpList_append_ag (by rfl) _ _ rfl ⟨w.heap.size, 0, none⟩ 8 8 alB rfl rfl (fun j u hu => by
      obtain ⟨ax, cx, ex, _, _, hcx⟩ := HS1.out
      cases ex
      obtain ⟨bx, ox, ey, _, hcc⟩ := hcx (by decide)
      cases ey
      rw [add_plain0]
      exact hcc j u hu) (.slice a1 n1 c1) (numI n) rfl HX1.out (by rw [numI_len]; decide) (by rw [numI_len]; decide) (by rw [numI_len]; decide) ?_)
  intro v3 w3 ho3 hg3
  have hb3 : Below w.heap.size w w3 := HB1.out.grown hg3 HB1.out.size (fun k hk => by cases hk)
  obtain ⟨a3, n3, c3, rfl⟩ := (Sl.of_owns ho3).val
  have HO3 := Lib.hid (own8 (ys := alB ++ numI n) (ownsRow_low ho3 HB1.out.size) (by simp))
  have HB3 := Lib.hid hb3
  obtain ⟨T, hT⟩ : ∃ T, ts.length / 64 = T := ⟨_, rfl⟩
  have hTI : (ts.length : Int) / 64 = (T : Int) := by omega
  have HF := Lib.hid (rfour_any (T : Nat) w3 (by omega) (by omega))
  have HTT := Lib.hid hT
  clear ho3 hg3 hb3 HX1 HS1 HB1 HSC HBC hT
  go_wp2_with fail
  refine HF.out.mono ?_
  rintro e w4 ⟨x4, rfl, hx4, hb4⟩
  obtain ⟨a4, n4, c4, rfl⟩ := hx4.val
  have HO4 := Lib.hid (ownsRow_below HO3.out hb4 (Nat.le_refl _))
  have HB4 := Lib.hid (below_trans2 HB3.out hb4)
  have HX4 := Lib.hid hx4
  clear hx4 hb4 HF HB3 HO3
  go_wp2_with (at_builtin; refine wpList_append_sl rfl _ _ 26 rfl w.heap.size 5 i0 (.int .u8 0) 1 Tryd.underlying26 hi hz0 hz1 hz2 rfl (.slice a3 n3 c3) _ _ rfl HO4.out (.slice a4 n4 c4) ((fourI (T : Nat)).map (Value.int .u8)) rfl HX4.out (hone _) (by simp [fourI_len, numI_len, alB, maxLen]) (by simp [fourI_len, numI_len, alB]) HB4.out.size ?_)
  intro v5 w5 ho5 hg5
  have hb5 : Below w.heap.size w w5 := HB4.out.grown hg5 HB4.out.size (fun k hk => (HO4.out.lt k hk).1)
  obtain ⟨a5, n5, c5, rfl⟩ := (Sl.of_owns ho5).val
  have HO5 := Lib.hid (own8 (ys := alB ++ numI n ++ fourI (T : Nat)) ho5 (by simp))
  have HB5 := Lib.hid hb5
  have HSU := Lib.hid (refSum_any _ ts w5 (by have := HLE.out; omega) HBT.out.at (HH.out.below hb5 (Nat.le_refl _)))
  clear ho5 hg5 hb5 HO4 HB4 HX4
  go_wp2_with fail
  refine HSU.out.mono ?_
  rintro e w6 ⟨x6, rfl, hx6, hb6⟩
  obtain ⟨a6, n6, c6, rfl⟩ := hx6.val
  have HO6 := Lib.hid (ownsRow_below HO5.out hb6 (Nat.le_refl _))
  have HB6 := Lib.hid (below_trans2 HB5.out hb6)
  have HX6 := Lib.hid hx6
  have hsl := HSL.out
  clear hx6 hb6 HSU HB5 HO5
  generalize hsg : sumI ts = sg at *
  have HSG := Lib.hid hsg
  clear hsg
  have HSGL := Lib.hid hsl
  clear hsl
  go_wp2_with (at_builtin; refine wpList_append_sl rfl _ _ 26 rfl w.heap.size 5 i0 (.int .u8 0) 1 Tryd.underlying26 hi hz0 hz1 hz2 rfl (.slice a5 n5 c5) _ _ rfl HO6.out (.slice a6 n6 c6) (sg.map (Value.int .u8)) rfl HX6.out (hone _) (by have := HSGL.out; simp [fourI_len, numI_len, alB, maxLen]; omega) (by have := HSGL.out; simp [fourI_len, numI_len, alB]; omega) HB6.out.size ?_)
  intro v7 w7 ho7 hg7
  have hb7 : Below w.heap.size w w7 := HB6.out.grown hg7 HB6.out.size (fun k hk => (HO6.out.lt k hk).1)
  obtain ⟨a7, n7, c7, rfl⟩ := (Sl.of_owns ho7).val
  have HO7 := Lib.hid (own8 (ys := markQ n T sg) ho7 (by simp [markQ]))
  have HB7 := Lib.hid hb7
  have HPA := Lib.hid (padded_own w.heap.size _ (markQ n T sg) w7 (by rw [markQ_len, HSGL.out]; decide) hb7.size HO7.out)
  clear ho7 hg7 hb7 HO6 HB6 HX6
  go_wp2_with fail
  refine HPA.out.mono ?_
  rintro e w8 ⟨x8, rfl, hx8, hb8⟩
  obtain ⟨a8, n8, c8, rfl⟩ := (Sl.of_owns hx8).val
  have HX8 := Lib.hid hx8
  have HB8 := Lib.hid (HB7.out.trans hb8)
  clear hx8 hb8
  go_wp2
  go_ret
  exact ⟨_, rfl, by rw [HTT.out, HSG.out]; exact HX8.out, HB8.out⟩

/-- What the reference's number says. -/
def numW (bs : List Int) : Int := bs.foldl (fun n x => wrap64 (wrap64 (n * 256) + x)) 0
set_option maxHeartbeats 1000000 in
theorem rnumber_any (v : Value) (bs : List Int) (w : World) (hl : bs.length ≤ 64) (hB : IsB bs) (h : Sl w v (bs.map (Value.int .u8))) :
    Calls Tryd.prog 89 #[v] w fun e w' => e = .returned (.int .i64 (numW bs)) ∧ w = w' := by
  obtain ⟨a, c, rfl, hc, hm⟩ := h.shape
  rw [List.length_map] at *
  have HH := Lib.hid h
  have HBB := Lib.hid hB
  clear h hB
  go_enter Tryd.func89, Tryd.ntmps89
  go_wp2
  go_loopw [3, 8] (fun n i wr => ∃ (k : Nat) (x : Int), k ≤ bs.length ∧ n = .int .i64 x ∧ Hid (x = numW (bs.take k)) ∧ i = .int .i64 k ∧ w = wr) (fun _ i _ => bs.length - (intOf i).toNat)
  case atStart => exact ⟨0, 0, by omega, rfl, Lib.hid rfl, rfl, rfl⟩
  case round =>
    obtain ⟨k, x, hk, rfl, hx, rfl, rfl⟩ := hrel
    by_cases hlt : k < bs.length
    · have hkI : (k : Int) < (bs.length : Int) := by omega
      obtain ⟨b, o, rfl, hlt2, hcell⟩ := HH.out.addr (by rw [List.length_map]; omega)
      have q0 : w.cell? ⟨b, o + k, none⟩ = some (.int .u8 bs[k]) := hcell k _ (by rw [List.getElem?_map, List.getElem?_eq_getElem hlt]; rfl)
      have hby := HBB.out bs[k] (List.getElem_mem hlt)
      have HV := Lib.hid (show wrap64 (wrap64 (x * 256) + bs[k]) = numW (bs.take (k + 1)) from by
        rw [hx.out, List.take_succ_eq_append_getElem hlt]
        unfold numW
        rw [List.foldl_append]
        rfl)
      clear hcell
      generalize bs[k] = y at *
      go_wp2
      go_roundw
      case rel => exact ⟨k + 1, _, hlt, rfl, HV, by go_num, trivial⟩
      case measure => simp [intOf]; omega
    · obtain rfl : k = bs.length := by omega
      have hkI : ¬ (bs.length : Int) < (bs.length : Int) := by omega
      have HX := Lib.hid hx.out
      rw [List.take_length] at HX
      clear hx
      go_wp2
      go_ret
      exact ⟨by show Ending.returned (.int .i64 x) = _; rw [HX.out], rfl⟩

end Go.Proofs.YtgfkejecigefbaaDoor

namespace Go.Proofs.YtgfkejecigefbaaDoor
open Go.RowKit
set_option linter.unusedVariables false

/-- A row of texts. -/
def TRow (w : World) (gl : Nat) (xs : List (List Int)) : Prop := ∃ cur : Array Value, Blk w gl 26 cur ∧ ∀ (i : Nat) (bs : List Int), xs[i]? = some bs → ∃ u : Value, cur[i]? = some u ∧ OB w 0 u bs
def BRow (w : World) (gw : Nat) (ws : List Bool) : Prop := ∃ cur : Array Value, Blk w gw 4 cur ∧ ∀ (i : Nat) (b : Bool), ws[i]? = some b → cur[i]? = some (Value.bool b)
/-- What the reference's device consists of. -/
def RFree (w : World) (bs : List Nat) : Prop := ∀ k ∈ bs, ∀ cur, ¬ Blk w k 5 cur ∧ ¬ Blk w k 26 cur ∧ ¬ Blk w k 4 cur ∧ ¬ Blk w k 92 cur
theorem TRow.only {w w' : World} {gl : Nat} {xs : List (List Int)} {bs : List Nat} (h : TRow w gl xs) (ho : Only bs w w') (hf : ∀ k ∈ bs, ∀ cur, ¬ Blk w k 5 cur) (hn : gl ∉ bs) : TRow w' gl xs := by
  obtain ⟨cur, k, hx⟩ := h
  exact ⟨cur, ho.blk k hn, fun i b hi => by
    obtain ⟨u, hu, hb⟩ := hx i b hi
    exact ⟨u, hu, hb.only ho hf⟩⟩
theorem BRow.only {w w' : World} {gw : Nat} {ws : List Bool} {bs : List Nat} (h : BRow w gw ws) (ho : Only bs w w') (hn : gw ∉ bs) : BRow w' gw ws := by
  obtain ⟨cur, k, hx⟩ := h
  exact ⟨cur, ho.blk k hn, hx⟩

def DSt.rB (d : DSt) : Int := if d.fused = true then d.burns else -1
abbrev rdCells (gl gk gw n cl ck cw : Nat) (d : DSt) : Array Value := #[.slice (some ⟨gl, 0, none⟩) n cl, .slice (some ⟨gk, 0, none⟩) n ck, .slice (some ⟨gw, 0, none⟩) n cw, .int .i64 d.rB, .bool d.dead, .int .i64 d.changes]
structure RDev (w : World) (y gl gk gw : Nat) (d : DSt) : Prop where
  blk : ∃ cl ck cw, (d.l.length ≤ cl ∧ cl ≤ 9223372036854775807) ∧ (d.l.length ≤ ck ∧ ck ≤ 9223372036854775807) ∧ (d.l.length ≤ cw ∧ cw ≤ 9223372036854775807) ∧ Blk w y 92 (rdCells gl gk gw d.l.length cl ck cw d)
  rl : TRow w gl (d.l.map Sec.now)
  rk : TRow w gk (d.l.map Sec.kept)
  rw : BRow w gw (d.l.map Sec.waits)
  ne : gl ≠ gk
  pos : 1 ≤ d.l.length ∧ d.l.length ≤ 16384
  burns : d.fused = true → 0 ≤ d.burns ∧ d.burns ≤ 9223372036854775807
  ok : ∀ s ∈ d.l, s.ok
theorem TRow.typ {w : World} {gl : Nat} {xs : List (List Int)} (h : TRow w gl xs) : ∃ cur, Blk w gl 26 cur := by obtain ⟨cur, k, _⟩ := h; exact ⟨cur, k⟩
theorem BRow.typ {w : World} {gl : Nat} {xs : List Bool} (h : BRow w gl xs) : ∃ cur, Blk w gl 4 cur := by obtain ⟨cur, k, _⟩ := h; exact ⟨cur, k⟩
theorem RDev.only {w w' : World} {y gl gk gw : Nat} {d : DSt} {bs : List Nat} (h : RDev w y gl gk gw d) (ho : Only bs w w') (hf : RFree w bs) : RDev w' y gl gk gw d := by
  obtain ⟨cl, ck, cw, h1, h2, h3, k⟩ := h.blk
  obtain ⟨c1, k1⟩ := h.rl.typ
  obtain ⟨c2, k2⟩ := h.rk.typ
  obtain ⟨c3, k3⟩ := h.rw.typ
  exact ⟨⟨cl, ck, cw, h1, h2, h3, ho.blk k fun hm => (hf _ hm _).2.2.2 k⟩, h.rl.only ho (fun k hk cur => (hf k hk cur).1) (fun hm => (hf _ hm _).2.1 k1), h.rk.only ho (fun k hk cur => (hf k hk cur).1) (fun hm => (hf _ hm _).2.1 k2), h.rw.only ho (fun hm => (hf _ hm _).2.2.1 k3), h.ne, h.pos, h.burns, h.ok⟩
theorem RDev.below {w w' : World} {y gl gk gw : Nat} {d : DSt} (h : RDev w y gl gk gw d) (hb : Below w.heap.size w w') : RDev w' y gl gk gw d := h.only (Only.of_below [] hb) (by intro k hk; cases hk)
/-- The fields alone are turned. -/
theorem RDev.fields {w : World} {y gl gk gw : Nat} {d : DSt} (h : RDev w y gl gk gw d) (d' : DSt) (hl : d'.l = d.l) (hbn : d'.fused = true → 0 ≤ d'.burns ∧ d'.burns ≤ 9223372036854775807) {w' : World}
    (hk : ∀ cl ck cw, Blk w y 92 (rdCells gl gk gw d.l.length cl ck cw d) → Blk w' y 92 (rdCells gl gk gw d.l.length cl ck cw d')) (ho : Only [y] w w') : RDev w' y gl gk gw d' := by
  obtain ⟨cl, ck, cw, h1, h2, h3, k⟩ := h.blk
  obtain ⟨c1, k1⟩ := h.rl.typ
  obtain ⟨c2, k2⟩ := h.rk.typ
  obtain ⟨c3, k3⟩ := h.rw.typ
  have n1 : ∀ k ∈ [y], ∀ cur, ¬ Blk w k 5 cur := fun q hq cur e => by
    obtain rfl : q = y := by simpa using hq
    exact Blk.ne_ e k (by decide) rfl
  have m1 : gl ∉ [y] := fun hm => Blk.ne_ k1 k (by decide) (by simpa using hm)
  have m2 : gk ∉ [y] := fun hm => Blk.ne_ k2 k (by decide) (by simpa using hm)
  have m3 : gw ∉ [y] := fun hm => Blk.ne_ k3 k (by decide) (by simpa using hm)
  obtain ⟨l', dead', fused', burns', changes'⟩ := d'
  subst hl
  exact ⟨⟨cl, ck, cw, h1, h2, h3, hk cl ck cw k⟩, h.rl.only ho n1 m1, h.rk.only ho n1 m2, h.rw.only ho m3, h.ne, h.pos, hbn, h.ok⟩

set_option maxHeartbeats 1000000 in
theorem rburn_any (w : World) (y gl gk gw : Nat) (d : DSt) (h : RDev w y gl gk gw d) :
    Calls Tryd.prog 92 #[.pointer (some ⟨y, 0, none⟩)] w fun e w' => e = .returned (.int .i64 d.chgE) ∧ RDev w' y gl gk gw d.chg ∧ Only [y] w w' := by
  have HD := Lib.hid h
  obtain ⟨cl, ck, cw, h1, h2, h3, k⟩ := h.blk
  have hbn := h.burns
  obtain ⟨l, dead, fused, burns, changes⟩ := d
  have c4 : w.cell? ⟨y, 4, none⟩ = some (.bool dead) := k.cell 4
  have c5 : w.cell? ⟨y, 5, none⟩ = some (.int .i64 changes) := k.cell 5
  have c3 : w.cell? ⟨y, 3, none⟩ = some (.int .i64 (DSt.rB { l := l, dead := dead, fused := fused, burns := burns, changes := changes })) := k.cell 3
  have f3 := k.frozen 3
  have f4 := k.frozen 4
  have f5 := k.frozen 5
  clear k h h1 h2 h3
  have hset1 : Only [y] w (w.setCell ⟨y, 4, none⟩ (.bool true)) := Only.setCell _ _ (by simp) _
  have HO1 := Lib.hid hset1
  have HS1 := Lib.hid (show RDev (w.setCell ⟨y, 4, none⟩ (.bool true)) y gl gk gw { l := l, dead := true, fused := fused, burns := burns, changes := changes } from
    HD.out.fields { l := l, dead := true, fused := fused, burns := burns, changes := changes } rfl hbn (fun cl ck cw k => k.set_ 4 (.bool true)) hset1)
  by_cases hst : DSt.stops { l := l, dead := dead, fused := fused, burns := burns, changes := changes } = true
  · have HE := Lib.hid (show DSt.chgE { l := l, dead := dead, fused := fused, burns := burns, changes := changes } = 70 ∧ DSt.chg { l := l, dead := dead, fused := fused, burns := burns, changes := changes } = { l := l, dead := true, fused := fused, burns := burns, changes := changes } from ⟨by unfold DSt.chgE; rw [if_pos hst], by unfold DSt.chg; rw [if_pos hst]⟩)
    rw [HE.out.1, HE.out.2]
    cases dead with
    | true =>
      clear hst hset1 hbn
      go_enter Tryd.func92, Tryd.ntmps92
      go_wp2
      go_ret
      exact ⟨rfl, HS1.out, HO1.out⟩
    | false =>
      have hz : fused = true ∧ burns = 0 := by simpa [DSt.stops] using hst
      obtain ⟨rfl, rfl⟩ := hz
      have c3' : w.cell? ⟨y, 3, none⟩ = some (.int .i64 0) := c3
      clear hst hset1 hbn c3
      go_enter Tryd.func92, Tryd.ntmps92
      go_wp2
      go_ret
      exact ⟨rfl, HS1.out, HO1.out⟩
  · have hd : dead = false := by
      cases dead
      · rfl
      · exact absurd rfl hst
    subst hd
    have HE := Lib.hid (show DSt.chgE { l := l, dead := false, fused := fused, burns := burns, changes := changes } = 0 ∧ DSt.chg { l := l, dead := false, fused := fused, burns := burns, changes := changes } = { l := l, dead := false, fused := fused, burns := wrap64 (burns - 1), changes := wrap64 (changes + 1) } from ⟨by unfold DSt.chgE; rw [if_neg hst], by unfold DSt.chg; rw [if_neg hst]⟩)
    rw [HE.out.1, HE.out.2]
    cases fused with
    | true =>
      have hb1 : burns ≠ 0 := by simpa [DSt.stops] using hst
      have hb2 : 0 ≤ burns ∧ burns ≤ 9223372036854775807 := hbn rfl
      have hw : wrap64 (burns - 1) = burns - 1 := by rw [wrap64]; omega
      have hzb : (burns == 0) = false := by rw [beq_eq_false_iff_ne]; exact hb1
      have hgt : (0 : Int) < burns := by omega
      have c3' : w.cell? ⟨y, 3, none⟩ = some (.int .i64 burns) := c3
      have d5 : (w.setCell ⟨y, 3, none⟩ (.int .i64 (burns - 1))).cell? ⟨y, 5, none⟩ = some (.int .i64 changes) := (World.cell?_setCell_other _ _ _ _ (by simp)).trans c5
      have HO2 := Lib.hid (show Only [y] w ((w.setCell ⟨y, 3, none⟩ (.int .i64 (burns - 1))).setCell ⟨y, 5, none⟩ (.int .i64 (wrap64 (changes + 1)))) from (Only.setCell _ _ (by simp) _).trans (Only.setCell _ _ (by simp) _))
      have HS2 := Lib.hid (show RDev ((w.setCell ⟨y, 3, none⟩ (.int .i64 (burns - 1))).setCell ⟨y, 5, none⟩ (.int .i64 (wrap64 (changes + 1)))) y gl gk gw { l := l, dead := false, fused := true, burns := wrap64 (burns - 1), changes := wrap64 (changes + 1) } from
        HD.out.fields { l := l, dead := false, fused := true, burns := wrap64 (burns - 1), changes := wrap64 (changes + 1) } rfl (fun _ => show 0 ≤ wrap64 (burns - 1) ∧ wrap64 (burns - 1) ≤ 9223372036854775807 from by rw [hw]; omega) (fun cl ck cw k => by rw [hw]; exact (k.set_ 3 (.int .i64 (burns - 1))).set_ 5 (.int .i64 (wrap64 (changes + 1)))) HO2.out)
      clear hst hset1 hbn c3 hb1 hb2
      go_enter Tryd.func92, Tryd.ntmps92
      go_wp2
      go_ret
      exact ⟨rfl, HS2.out, HO2.out⟩
    | false =>
      have c3' : w.cell? ⟨y, 3, none⟩ = some (.int .i64 (-1)) := c3
      have HO2 := Lib.hid (show Only [y] w (w.setCell ⟨y, 5, none⟩ (.int .i64 (wrap64 (changes + 1)))) from Only.setCell _ _ (by simp) _)
      have HS2 := Lib.hid (show RDev (w.setCell ⟨y, 5, none⟩ (.int .i64 (wrap64 (changes + 1)))) y gl gk gw { l := l, dead := false, fused := false, burns := wrap64 (burns - 1), changes := wrap64 (changes + 1) } from
        HD.out.fields { l := l, dead := false, fused := false, burns := wrap64 (burns - 1), changes := wrap64 (changes + 1) } rfl (fun q => by cases q) (fun cl ck cw k => k.set_ 5 (.int .i64 (wrap64 (changes + 1)))) HO2.out)
      clear hst hset1 hbn c3
      go_enter Tryd.func92, Tryd.ntmps92
      go_wp2
      go_ret
      exact ⟨rfl, HS2.out, HO2.out⟩

end Go.Proofs.YtgfkejecigefbaaDoor

namespace Go.Proofs.YtgfkejecigefbaaDoor
open Go.RowKit
set_option linter.unusedVariables false

theorem numW_fold : ∀ (l : List Int) (a : Int) (k : Nat), IsB l → 0 ≤ a → a < 256 ^ k → k + l.length ≤ 7 → l.foldl (fun n x => wrap64 (wrap64 (n * 256) + x)) a = l.foldl (fun n x => n * 256 + x) a
  | [], a, k, _, _, _, _ => rfl
  | x :: r, a, k, hB, h0, h1, hl => by
    have hx := hB x (by simp)
    rw [List.length_cons] at hl
    have hp : (256 : Int) ^ k ≤ 281474976710656 := by
      have hk : k ≤ 6 := by omega
      match k, hk with
      | 0, _ => decide
      | 1, _ => decide
      | 2, _ => decide
      | 3, _ => decide
      | 4, _ => decide
      | 5, _ => decide
      | 6, _ => decide
    have e : wrap64 (wrap64 (a * 256) + x) = a * 256 + x := by unfold wrap64; omega
    rw [List.foldl_cons, List.foldl_cons, e]
    exact numW_fold r (a * 256 + x) (k + 1) (fun y hy => hB y (by simp [hy])) (by omega) (by rw [Int.pow_succ]; omega) (by omega)
theorem numW_val {l : List Int} (h : l.length ≤ 7) (hB : IsB l) : numW l = valI l := numW_fold l 0 0 hB (by omega) (by decide) (by omega)
theorem numW_numI (s : Int) (h0 : 0 ≤ s) (h1 : s < 2147483648) : numW (numI s) = s := by
  have e4 : (256 : Int) ^ 4 = 4294967296 := by decide
  have z4 : s / 256 ^ 4 = 0 := by rw [e4]; omega
  have z5 : s / 256 ^ 5 = 0 := by rw [Int.pow_succ, ← Int.ediv_ediv_of_nonneg (by rw [e4]; omega), z4]; rfl
  have z6 : s / 256 ^ 6 = 0 := by rw [Int.pow_succ, ← Int.ediv_ediv_of_nonneg (by decide), z5]; rfl
  have z7 : s / 256 ^ 7 = 0 := by rw [Int.pow_succ, ← Int.ediv_ediv_of_nonneg (by decide), z6]; rfl
  have hsplit : numI s = 0 :: ([0, 0, 0] ++ fourI s) := by
    have h : numI s = [s / 256 ^ 7 % 256, s / 256 ^ 6 % 256, s / 256 ^ 5 % 256, s / 256 ^ 4 % 256, s / 256 ^ 3 % 256, s / 256 ^ 2 % 256, s / 256 ^ 1 % 256, s / 256 ^ 0 % 256] := by
      simp [numI, List.range_succ]
    rw [h, z7, z6, z5, z4, fourI_eq]
    rfl
  rw [hsplit]
  unfold numW
  rw [List.foldl_cons, show wrap64 (wrap64 (0 * 256) + 0) = 0 from by unfold wrap64; omega]
  have h7 := numW_fold ([0, 0, 0] ++ fourI s) 0 0 (IsB.append (by intro x hx; simp at hx; omega) (fourI_isB s)) (by omega) (by decide) (by rw [List.length_append, fourI_len]; decide)
  rw [h7, List.foldl_append]
  exact valI_four s h0 (by omega)
theorem first8 {img : List (List Int)} {num : Int} (h : nextOk img num = true) : (img.getD 0 []).take 8 = numI num := by
  unfold nextOk at h
  rw [decide_eq_true_eq] at h
  obtain ⟨hf, he⟩ := h
  have h1 : (laidI num (bodyI img) ++ []).getD 0 [] = padTo 64 (headT num (bodyI img)) := textS_first
  rw [List.append_nil] at h1
  have h2 : (laidI num (bodyI img)).getD 0 [] = img.getD 0 [] := by
    conv => lhs; rw [he]
    rw [List.getD_eq_getElem?_getD, List.getElem?_take, if_pos (by rw [laidI_len]; omega), ← List.getD_eq_getElem?_getD]
  rw [← h2, h1]
  have hlen := headT_len num (bodyI img)
  have hh : headT num (bodyI img) = numI num ++ (fourI (bodyI img).length ++ bodyI img) := rfl
  unfold padTo
  rw [List.take_append_of_le_length (by rw [List.length_take]; omega), List.take_take, Nat.min_eq_left (by omega), hh, List.take_append_of_le_length (by rw [numI_len]; exact Nat.le_refl _), List.take_of_length_le (by rw [numI_len]; exact Nat.le_refl _)]
theorem flat_inj : ∀ {l r : List (List Int)}, (∀ p ∈ l, p.length = 64) → (∀ p ∈ r, p.length = 64) → l.flatten = r.flatten → l = r
  | [], [], _, _, _ => rfl
  | [], p :: r, _, h2, e => by
    have := congrArg List.length e
    have hp := h2 p (by simp)
    rw [List.flatten_cons, List.length_append, hp] at this
    simp at this
    omega
  | p :: l, [], h1, _, e => by
    have := congrArg List.length e
    have hp := h1 p (by simp)
    rw [List.flatten_cons, List.length_append, hp] at this
    simp at this
  | p :: l, q :: r, h1, h2, e => by
    rw [List.flatten_cons, List.flatten_cons] at e
    have hp := h1 p (by simp)
    have hq := h2 q (by simp)
    obtain ⟨e1, e2⟩ := List.append_inj e (by rw [hp, hq])
    rw [e1, flat_inj (fun x hx => h1 x (by simp [hx])) (fun x hx => h2 x (by simp [hx])) e2]
def refA (img : List (List Int)) (num : Int) (K : Nat) : Prop := padUp (headT num (bodyI img)) = (img.take K).flatten
def refB (img : List (List Int)) (num : Int) (K : Nat) : Prop := padUp (markQ num ((img.take K).flatten.length / 64) (sumI (img.take K).flatten)) = img.getD K []
instance (img : List (List Int)) (num : Int) (K : Nat) : Decidable (refA img num K) := by unfold refA; infer_instance
instance (img : List (List Int)) (num : Int) (K : Nat) : Decidable (refB img num K) := by unfold refB; infer_instance
theorem one_flat {m : List (List Int)} (h : m.length = 1) : m = [m.flatten] := by
  match m, h with
  | [p], _ => simp
theorem nextOk_ref {img : List (List Int)} {num : Int} (h64 : ∀ p ∈ img, p.length = 64) (hf : nextFit img) : nextOk img num = true ↔ refA img num (secsOf (lenAt img)) ∧ refB img num (secsOf (lenAt img)) := by
  have hfit := laid_fit num h64 hf
  have hbl := bodyI_len h64 hf
  have hf2 := hf
  obtain ⟨f1, f2, f3⟩ := hf2
  have hT : (textS num (bodyI img)).length = secsOf (lenAt img) := by rw [textS_len, hbl]; unfold secsOf; omega
  have hm1 : (cut64 (markB num (textS num (bodyI img)))).length = 1 := markS_len _ _
  have hK : secsOf (lenAt img) < img.length := f3
  generalize secsOf (lenAt img) = K at *
  have htk : img.take (K + 1) = img.take K ++ [img.getD K []] := by
    rw [List.take_succ_eq_append_getElem hK, List.getD_eq_getElem?_getD, List.getElem?_eq_getElem hK]; rfl
  have hL : (laidI num (bodyI img)).length = K + 1 := hfit.1
  have hmk : cut64 (markB num (textS num (bodyI img))) = [padUp (markB num (textS num (bodyI img)))] := by rw [one_flat hm1, mark_flat]
  have hq : ∀ (X : List (List Int)), (∀ p ∈ X, p.length = 64) → X.length = K → markB num X = markQ num (X.flatten.length / 64) (sumI X.flatten) := fun X hX hl => by
    rw [flat64_len hX, hl, Nat.mul_div_cancel_left _ (by decide)]
    unfold markB markQ
    rw [hl]
  have h64t : ∀ p ∈ img.take K, p.length = 64 := fun p hp => h64 p (List.mem_of_mem_take hp)
  have hlt : (img.take K).length = K := by rw [List.length_take]; omega
  unfold nextOk
  rw [decide_eq_true_eq, hL, htk]
  constructor
  · rintro ⟨_, he⟩
    have h1 : textS num (bodyI img) ++ cut64 (markB num (textS num (bodyI img))) = img.take K ++ [img.getD K []] := he
    obtain ⟨e1, e2⟩ := List.append_inj h1 (by rw [hT, hlt])
    refine ⟨?_, ?_⟩
    · unfold refA; rw [← text_flat, e1]
    · unfold refB
      rw [hmk, hq _ (textS_64 _ _) hT, e1] at e2
      exact List.singleton_inj.1 e2
  · rintro ⟨ha, hb⟩
    unfold refA at ha
    unfold refB at hb
    rw [← text_flat] at ha
    have e1 := flat_inj (textS_64 _ _) h64t ha
    refine ⟨hf, ?_⟩
    show textS num (bodyI img) ++ cut64 (markB num (textS num (bodyI img))) = _
    rw [hmk, hq _ (textS_64 _ _) hT, e1, hb]
theorem TRow.get {w : World} {gl : Nat} {xs : List (List Int)} (h : TRow w gl xs) {i : Nat} (hi : i < xs.length) : ∃ u, w.cell? ⟨gl, i, none⟩ = some u ∧ OB w 0 u (xs.getD i []) := by
  obtain ⟨cur, k, hx⟩ := h
  obtain ⟨u, hu, ho⟩ := hx i (xs.getD i []) (by rw [List.getD_eq_getElem?_getD, List.getElem?_eq_getElem hi]; rfl)
  exact ⟨u, (k.cell i).trans hu, ho⟩

end Go.Proofs.YtgfkejecigefbaaDoor

namespace Go.Proofs.YtgfkejecigefbaaDoor
open Go.RowKit
set_option linter.unusedVariables false

abbrev Chg := List Int × List Int
/-- The value is a change of this identity and this key. -/
def Bd (w : World) (v : Value) (p : Chg) : Prop := ∃ i k, v = .agg #[i, k] ∧ Sl w i (p.1.map (Value.int .u8)) ∧ Sl w k (p.2.map (Value.int .u8))
/-- The value is a slice of changes. -/
def Bds (w : World) (v : Value) (l : List Chg) : Prop :=
  ∃ a cap, v = .slice a l.length cap ∧ l.length ≤ cap ∧ cap ≤ maxLen ∧ (0 < l.length → ∃ b off, a = some ⟨b, off, none⟩ ∧ b < w.heap.size ∧
    ∀ i p, l[i]? = some p → ∃ u1 u2, w.cell? ⟨b, off + i * 2, none⟩ = some u1 ∧ w.cell? ⟨b, off + i * 2 + 1, none⟩ = some u2 ∧ Sl w u1 (p.1.map (Value.int .u8)) ∧ Sl w u2 (p.2.map (Value.int .u8)))

theorem Bd.below {w w' : World} {v : Value} {p : Chg} (h : Bd w v p) {B : Nat} (hb : Below B w w') (hB : w.heap.size ≤ B) : Bd w' v p := by
  obtain ⟨i, k, rfl, h1, h2⟩ := h
  exact ⟨i, k, rfl, h1.below hb hB, h2.below hb hB⟩
theorem Bds.below {w w' : World} {v : Value} {l : List Chg} (h : Bds w v l) {B : Nat} (hb : Below B w w') (hB : w.heap.size ≤ B) : Bds w' v l := by
  obtain ⟨a, cap, rfl, h1, h2, h3⟩ := h
  refine ⟨a, cap, rfl, h1, h2, fun hp => ?_⟩
  obtain ⟨b, off, rfl, hlt, hc⟩ := h3 hp
  have := hb.size
  refine ⟨b, off, rfl, by omega, fun i p hi => ?_⟩
  obtain ⟨u1, u2, c1, c2, s1, s2⟩ := hc i p hi
  exact ⟨u1, u2, (hb.cell (p := ⟨b, off + i * 2, none⟩) (by show b < B; omega)).trans c1, (hb.cell (p := ⟨b, off + i * 2 + 1, none⟩) (by show b < B; omega)).trans c2, s1.below hb hB, s2.below hb hB⟩
theorem Bds.shape {w : World} {v : Value} {l : List Chg} (h : Bds w v l) : ∃ a cap, v = .slice a l.length cap ∧ l.length ≤ cap ∧ cap ≤ 9223372036854775807 := by
  obtain ⟨a, cap, rfl, h1, h2, _⟩ := h
  exact ⟨a, cap, rfl, h1, h2⟩
theorem Bds.nil (w : World) : Bds w (.slice none 0 0) [] := ⟨none, 0, rfl, by simp, by unfold maxLen; omega, by simp⟩
theorem Bds.take {w : World} {a : Option Addr} {n cap : Nat} {l : List Chg} (h : Bds w (.slice a n cap) l) (m : Nat) (hm : m ≤ l.length) : Bds w (.slice a m cap) (l.take m) := by
  obtain ⟨a', cap', h0, h1, h2, h3⟩ := h
  cases h0
  have hl : (l.take m).length = m := by rw [List.length_take]; omega
  refine ⟨a, cap, by rw [hl], by omega, h2, fun hp => ?_⟩
  obtain ⟨b, off, rfl, hlt, hc⟩ := h3 (by omega)
  refine ⟨b, off, rfl, hlt, fun i p hi => hc i p ?_⟩
  rw [List.getElem?_take] at hi
  split at hi
  · exact hi
  · cases hi
/-- Where an element lies, and how its two cells read. -/
theorem Bds.at {w : World} {a : Option Addr} {n cap : Nat} {l : List Chg} (h : Bds w (.slice a n cap) l) {k : Nat} (hk : k < l.length) :
    ∃ b off, a = some ⟨b, off, none⟩ ∧ b < w.heap.size ∧ ∃ u1 u2, w.cell? ⟨b, off + k * 2, none⟩ = some u1 ∧ w.cell? ⟨b, off + k * 2 + 1, none⟩ = some u2 ∧
      Sl w u1 ((l.getD k ([], [])).1.map (Value.int .u8)) ∧ Sl w u2 ((l.getD k ([], [])).2.map (Value.int .u8)) := by
  obtain ⟨a', cap', h0, h1, h2, h3⟩ := h
  cases h0
  obtain ⟨b, off, rfl, hlt, hc⟩ := h3 (by omega)
  have hg : l[k]? = some (l.getD k ([], [])) := by rw [List.getD_eq_getElem?_getD, List.getElem?_eq_getElem hk]; rfl
  obtain ⟨u1, u2, c1, c2, s1, s2⟩ := hc k _ hg
  exact ⟨b, off, rfl, hlt, u1, u2, c1, c2, s1, s2⟩

/-- What is wrong with a batch. -/
def chkI (mi mk : Int) (l : List Chg) : Int :=
  if l.length = 0 then 82 else if 32 < l.length then 4 else if l.any (fun p => decide (mi < p.1.length) || decide (mk < p.2.length)) then 1 else if (l.map (·.1)).Nodup then 0 else 80


end Go.Proofs.YtgfkejecigefbaaDoor

namespace Go.Proofs.YtgfkejecigefbaaDoor
open Go.RowKit Go.Maps Go.WideMaps
set_option linter.unusedVariables false

theorem keyLaw : Keyed Tryd.prog 9 := string_keyed Tryd.underlying9
theorem zeroI (w : World) : (zeroValue 3).run Tryd.prog w = .ok (.int .i64 0) w := by kernel_rfl

def keyOfI (xs : List Int) : Lit := .string (strOfNums xs).data.toList
/-- What the map holds behind the first changes. -/
structure Seen (D : DataW Unit) (ids : List (List Int)) (k : Nat) : Prop where
  tidy : Tidy D
  has : ∀ x, IsB x → has D (keyOfI x) = decide (x ∈ ids.take k)
  le : size D ≤ k
  eq : size D = k ↔ (ids.take k).Nodup

theorem keyOfI_lit (x : List Int) : WideAt.IsKeyLit (keyOfI x) := trivial
theorem keyOfI_ne {x y : List Int} (hx : IsB x) (hy : IsB y) (h : x ≠ y) : keyOfI x ≠ keyOfI y := fun he => by
  unfold keyOfI at he
  injection he with he
  rw [strOfNums_data, strOfNums_data] at he
  exact h (bytes_inj hx hy he)
theorem Seen.nil (ids : List (List Int)) : Seen (.map []) ids 0 := ⟨tidy_empty, fun x _ => by simp [has_eq], by simp [size_eq], by simp [size_eq]⟩
theorem Seen.step {D : DataW Unit} {ids : List (List Int)} {k : Nat} (h : Seen D ids k) (hk : k < ids.length) (hB : ∀ x ∈ ids, IsB x) (d : DataW Unit) : Seen (D.put (keyOfI (ids.getD k [])) d) ids (k + 1) := by
  have hg : ids.getD k [] = ids[k] := by rw [List.getD_eq_getElem?_getD, List.getElem?_eq_getElem hk]; rfl
  have hx : IsB (ids.getD k []) := by rw [hg]; exact hB _ (List.getElem_mem hk)
  have ht : ids.take (k + 1) = ids.take k ++ [ids.getD k []] := by rw [List.take_succ_eq_append_getElem hk, hg]
  generalize ids.getD k [] = x at *
  have hh := h.has x hx
  have hs := size_put (k := keyOfI x) h.tidy d
  have hle := h.le
  have heq := h.eq
  refine ⟨h.tidy.put (keyOfI_lit x) d, fun y hy => ?_, ?_, ?_⟩
  · rw [ht]
    by_cases he : y = x
    · subst he
      rw [has_put_same h.tidy.isMap (keyOfI_lit y)]
      simp
    · rw [has_put_other (keyOfI_ne hy hx he), h.has y hy]
      simp [he]
  · rw [hs]; split <;> omega
  · rw [hs, hh, ht]
    by_cases hm : x ∈ ids.take k
    · rw [decide_eq_true hm, if_pos rfl]
      refine ⟨fun e => by omega, fun hn => ?_⟩
      rw [List.nodup_append] at hn
      exact absurd rfl (hn.2.2 x hm x (by simp))
    · rw [decide_eq_false hm, if_neg (by simp), List.nodup_append]
      refine ⟨fun e => ⟨heq.1 (by omega), by simp, fun a ha b hb => ?_⟩, fun hn => by rw [heq.2 hn.1]⟩
      simp only [List.mem_singleton] at hb
      subst hb
      exact fun e => hm (e ▸ ha)

def Long (mi mk : Int) (p : Chg) : Bool := decide (mi < p.1.length) || decide (mk < p.2.length)
theorem chk_long {mi mk : Int} {l : List Chg} (h0 : 0 < l.length) (h1 : ¬ 32 < l.length) (k : Nat) (hk : k < l.length) (h : Long mi mk (l.getD k ([], [])) = true) : chkI mi mk l = 1 := by
  unfold chkI
  rw [if_neg (by omega), if_neg h1, if_pos]
  refine List.any_eq_true.2 ⟨l.getD k ([], []), ?_, h⟩
  rw [List.getD_eq_getElem?_getD, List.getElem?_eq_getElem hk]
  exact List.getElem_mem hk
theorem chk_end {mi mk : Int} {l : List Chg} (h0 : 0 < l.length) (h1 : ¬ 32 < l.length) (h : ∀ p ∈ l, Long mi mk p = false) : chkI mi mk l = if (l.map (·.1)).Nodup then 0 else 80 := by
  unfold chkI
  rw [if_neg (by omega), if_neg h1, if_neg]
  intro hc
  obtain ⟨p, hp, hl⟩ := List.any_eq_true.1 hc
  exact absurd ((h p hp).symm.trans hl) (by decide)

def ChkPost (w : World) (mi mk : Int) (l : List Chg) (e : Ending) (w' : World) : Prop := e = .returned (.int .i64 (chkI mi mk l)) ∧ Below w.heap.size w w'

end Go.Proofs.YtgfkejecigefbaaDoor

namespace Go.Proofs.YtgfkejecigefbaaDoor
open Go.RowKit
set_option linter.unusedVariables false

theorem idsAt (l : List Chg) (k : Nat) (hk : k < l.length) : (l.map (·.1)).getD k [] = (l.getD k ([], [])).1 := by
  simp [List.getD_eq_getElem?_getD, List.getElem?_map, List.getElem?_eq_getElem hk]
theorem nodup_step (ids : List (List Int)) (k : Nat) (hk : k < ids.length) (h : (ids.take k).Nodup) (hne : ∀ j, j < k → ids.getD j [] ≠ ids.getD k []) : (ids.take (k + 1)).Nodup := by
  rw [List.take_succ_eq_append_getElem hk, List.nodup_append]
  refine ⟨h, by simp, fun a ha b hb => ?_⟩
  simp only [List.mem_singleton] at hb
  subst hb
  obtain ⟨j, hj, rfl⟩ := List.mem_iff_getElem.1 ha
  rw [List.length_take] at hj
  have := hne j (by omega)
  rw [List.getD_eq_getElem?_getD, List.getD_eq_getElem?_getD, List.getElem?_eq_getElem hk, List.getElem?_eq_getElem (by omega)] at this
  simpa using this
theorem nodup_not (ids : List (List Int)) (j k : Nat) (hjk : j < k) (hk : k < ids.length) (h : ids.getD j [] = ids.getD k []) : ¬ ids.Nodup := fun hn => by
  rw [List.getD_eq_getElem?_getD, List.getD_eq_getElem?_getD, List.getElem?_eq_getElem hk, List.getElem?_eq_getElem (by omega)] at h
  have := (List.getElem_inj (h₀ := by omega) (h₁ := hk) hn).1 h
  omega

end Go.Proofs.YtgfkejecigefbaaDoor

namespace Go.Proofs.YtgfkejecigefbaaDoor
open Go.RowKit
set_option linter.unusedVariables false

theorem Sl.convN {w : World} {v : Value} {xs : List Int} (h : Sl w v (xs.map (Value.int .u8))) : ∀ n, (convert 26 9 v).run Tryd.prog (w.drewN n) = .ok (.string (strOfNums xs)) (w.drewN n) :=
  fun n => (h.below (below_drewN (Below.refl w.heap.size w) n) (Nat.le_refl _)).conv

theorem chgs_differ {ps qs : List Chg} {k : Nat} (h : ps.getD k ([], []) ≠ qs.getD k ([], [])) : decide (ps = qs) = false := by
  simp only [decide_eq_false_iff_not]
  rintro rfl
  exact h rfl
theorem chgs_same {ps qs : List Chg} (hl : ps.length = qs.length) (h : ∀ j, j < ps.length → ps.getD j ([], []) = qs.getD j ([], [])) : decide (ps = qs) = true := by
  simp only [decide_eq_true_eq]
  refine List.ext_getElem hl fun j h1 h2 => ?_
  have := h j h1
  rwa [List.getD_eq_getElem?_getD, List.getD_eq_getElem?_getD, List.getElem?_eq_getElem h1, List.getElem?_eq_getElem h2] at this
theorem chg_at {l : List Chg} (h : ∀ p ∈ l, IsB p.1 ∧ IsB p.2) {k : Nat} (hk : k < l.length) : IsB (l.getD k ([], [])).1 ∧ IsB (l.getD k ([], [])).2 := by
  rw [List.getD_eq_getElem?_getD, List.getElem?_eq_getElem hk]; exact h _ (List.getElem_mem hk)
theorem str_eq {x z : List Int} (h : x = z) : ((strOfNums x).toList == (strOfNums z).toList) = true := by rw [h]; exact beq_self_eq_true _
theorem str_ne {x z : List Int} (hx : IsB x) (hz : IsB z) (h : ¬ x = z) : ((strOfNums x).toList == (strOfNums z).toList) = false := by rw [beq_eq_false_iff_ne]; exact fun e => h (strOfNums_inj hx hz (toList_inj e))

end Go.Proofs.YtgfkejecigefbaaDoor

namespace Go.Proofs.YtgfkejecigefbaaDoor
open Go.RowKit
set_option linter.unusedVariables false

theorem run_append_slB {P : Program} (w : World) (base : Nat) (t ty e : TypeId) (i : TypeInfo) (z : Value) (bytes : Nat) (ht : P.underlying t = some (.slice e)) (hi : P.info? e = some i) (hz : i.zero = some z)
    (hsize : i.size = 1) (hby : i.bytes = bytes) (hzs : z.cells.size = 1)
    (v : Value) (n : Nat) (xs : List Value) (hown : w.ownsRow base e 1 v n xs)
    (u : Value) (ys : List Value) (hsl : Sl w u ys) (h1 : ∀ u ∈ ys, u.oneCell' = true)
    (h63 : n + ys.length ≤ maxLen) (hbytes : (n + ys.length) * bytes ≤ 140737488355328) (hbase : base ≤ w.heap.size) :
    ∃ v' w', (Builtin.append_ #[t, t] ty #[v, u]).run P w = .ok v' w' ∧ w'.ownsRow base e 1 v' (n + ys.length) (xs ++ ys) ∧ w.grownBy w' v.ownBlock := by
  obtain ⟨ad, cap, rfl, hlc, hcm, hc⟩ := hsl
  cases ad with
  | some ad =>
    obtain ⟨v', w', h2, h3, h4, _⟩ := run_append_own (P := P) w base t ty e i z 1 bytes ht hi hz hsize hby hzs (by decide) v n xs hown ad ys.length cap ys (by omega) (by
      intro j u hu
      have hj : 0 < ys.length := by
        rcases Nat.lt_or_ge j ys.length with hlt | hge
        · omega
        · rw [List.getElem?_eq_none hge] at hu; cases hu
      obtain ⟨b, off, hab, hlt, hcell⟩ := hc hj
      cases hab
      rw [add_plain0]
      exact hcell j u hu) h1 h63 hbytes hbase
    exact ⟨v', w', h2, h3, h4⟩
  | none =>
    have hl0 : ys.length = 0 := by
      rcases Nat.eq_zero_or_pos ys.length with h0 | h0
      · exact h0
      · obtain ⟨b, off, hab, _⟩ := hc h0; cases hab
    obtain rfl : ys = [] := List.length_eq_zero_iff.1 hl0
    have hrun : (Builtin.append_ #[t, t] ty #[v, .slice none 0 cap]).run P w = .ok v w := by
      rcases hown.2 with ⟨rfl, rfl⟩ | ⟨g, cap', cur, rfl, _, _, hnc, _⟩
      · simp [Builtin.append_, run_underlying ht, sizeOf, typeInfo, hi, Builtin.lenOf, Builtin.firstCells]
      · simp [Builtin.append_, run_underlying ht, sizeOf, typeInfo, hi, Builtin.lenOf, Builtin.firstCells, hnc, storeCells]
    exact ⟨v, w, hrun, by simpa using hown, ⟨rfl, rfl, rfl, Nat.le_refl _, fun _ _ _ => rfl⟩⟩

theorem step_append_bytes {w : World} {ops : Array Oper} {o : Oper} {a : Act} {K : Act → World → Prop} {Q : Exit → Act → World → Prop} {E : Prop} (hgd : o.guard = none) (s x : Operand)
    (ho : o.op = .call { callee := .builtin .append, args := #[s, x], argTypes := #[26, 26] })
    (base : Nat) (v : Value) (n : Nat) (xs : List Value) (hs : a.eval s = v) (hown : w.ownsRow base 5 1 v n xs)
    (u : Value) (bs : List Int) (hx : a.eval x = u) (hu : Sl w u (bs.map (Value.int .u8)))
    (h63 : n + bs.length ≤ 140737488355328) (hbase : base ≤ w.heap.size)
    (h : ∀ v' w', w'.ownsRow base 5 1 v' (n + bs.length) (xs ++ bs.map (Value.int .u8)) → w.grownBy w' v.ownBlock → K (a.put o.dst v') w') : if Region.wanted o (yielded ops a.tmps) = true then Oper.wp Tryd.prog o a w K Q else E := by
  have hw : Region.wanted o (yielded ops a.tmps) = true := by simp [Region.wanted, hgd]
  rw [if_pos hw]
  obtain ⟨i0, hi, hz0, hz1, hz2⟩ := info_parts info8c
  obtain ⟨v', w', hrun, hown', hg⟩ := run_append_slB (P := Tryd.prog) w base 26 o.type 5 i0 (.int .u8 0) 1 Tryd.underlying26 hi hz0 hz1 hz2 rfl v n xs hown u (bs.map (Value.int .u8)) hu (one8 _) (by rw [List.length_map]; unfold maxLen; omega) (by rw [List.length_map]; omega) hbase
  rw [List.length_map] at hown'
  unfold Oper.wp execOp
  simp only [ho, resolve, invoke, builtin, Sem.run_bind, Sem.run_pure, Result.andThen_ok, List.map_toArray, List.map_cons, List.map_nil, hs, hx, hrun]
  exact h v' w' hown' hg

theorem wpList_append_bytes {w : World} {ops : Array Oper} {rest : List Oper} {o : Oper} {a : Act} {Q : Exit → Act → World → Prop} (hgd : o.guard = none) (s x : Operand)
    (ho : o.op = .call { callee := .builtin .append, args := #[s, x], argTypes := #[26, 26] })
    (base : Nat) (v : Value) (n : Nat) (xs : List Value) (hs : a.eval s = v) (hown : w.ownsRow base 5 1 v n xs)
    (u : Value) (bs : List Int) (hx : a.eval x = u) (hu : Sl w u (bs.map (Value.int .u8)))
    (h63 : n + bs.length ≤ 140737488355328) (hbase : base ≤ w.heap.size)
    (h : ∀ v' w', w'.ownsRow base 5 1 v' (n + bs.length) (xs ++ bs.map (Value.int .u8)) → w.grownBy w' v.ownBlock → wpList Tryd.prog ops Q rest (a.put o.dst v') w') : wpList Tryd.prog ops Q (o :: rest) a w := by
  obtain ⟨i0, hi, hz0, hz1, hz2⟩ := info_parts info8c
  refine wpList_append_sl hgd s x 26 ho base 5 i0 (.int .u8 0) 1 Tryd.underlying26 hi hz0 hz1 hz2 rfl v n xs hs hown u (bs.map (Value.int .u8)) hx hu (one8 _) (by rw [List.length_map]; unfold maxLen; omega) (by rw [List.length_map]; omega) hbase ?_
  rw [List.length_map]
  exact h

end Go.Proofs.YtgfkejecigefbaaDoor
