
/- A device: which sectors wait; Crash. -/
import Derived.Test.YtgfkejecigefbaaDoorDvC
import Derived.Test.YtgfkejecigefbaaDoorDvD
import Derived.Test.YtgfkejecigefbaaDoorDvE
namespace Go.Proofs.YtgfkejecigefbaaDoor
open Go.RowKit
set_option linter.unusedVariables false

theorem infoInt : (Tryd.prog.info? 3).map (fun i => (i.zero, i.size, i.bytes)) = some (some (.int .i64 0), 1, 8) := by kernel_rfl
/-- The numbers among the first n of those that wait. -/
def wlN (l : List Bool) : Nat → List Nat
  | 0 => []
  | n + 1 => wlN l n ++ (if l.getD n false = true then [n] else [])
def wlL (l : List Bool) : List Nat := wlN l l.length
theorem wlN_le (l : List Bool) : ∀ {i j : Nat}, i ≤ j → (wlN l i).length ≤ (wlN l j).length := by
  intro i j h
  induction h with
  | refl => exact Nat.le_refl _
  | step _ ih => rw [wlN, List.length_append]; omega
theorem wlN_bound (l : List Bool) : ∀ n, (wlN l n).length ≤ n
  | 0 => by simp [wlN]
  | n + 1 => by
    have := wlN_bound l n
    rw [wlN, List.length_append]; split <;> simp <;> omega
theorem wlN_lt {l : List Bool} {i j : Nat} (hi : l.getD i false = true) (h : i < j) : (wlN l i).length < (wlN l j).length := by
  have h1 : (wlN l (i + 1)).length = (wlN l i).length + 1 := by rw [wlN, hi]; simp
  have := wlN_le l (show i + 1 ≤ j from h)
  omega
theorem wlN_inj {l : List Bool} {i j : Nat} (hi : l.getD i false = true) (hj : l.getD j false = true) (h : (wlN l i).length = (wlN l j).length) : i = j := by
  rcases Nat.lt_trichotomy i j with q | q | q
  · have := wlN_lt hi q; omega
  · exact q
  · have := wlN_lt hj q; omega
theorem wlN_get (l : List Bool) : ∀ (n k : Nat), k < (wlN l n).length → ∃ i, i < n ∧ (wlN l n)[k]? = some i ∧ l.getD i false = true ∧ (wlN l i).length = k
  | 0, k, h => by simp [wlN] at h
  | n + 1, k, h => by
    rcases Nat.lt_or_ge k (wlN l n).length with q | q
    · obtain ⟨i, h1, h2, h3, h4⟩ := wlN_get l n k q
      exact ⟨i, by omega, by rw [wlN, List.getElem?_append_left q]; exact h2, h3, h4⟩
    · by_cases hw : l.getD n false = true
      · rw [wlN, if_pos hw] at h ⊢
        rw [List.length_append, List.length_singleton] at h
        have hk : k = (wlN l n).length := by omega
        exact ⟨n, by omega, by rw [hk, List.getElem?_append_right (Nat.le_refl _)]; simp, hw, hk.symm⟩
      · rw [wlN, if_neg hw, List.append_nil] at h; omega
def DSt.ws (d : DSt) : List Bool := d.l.map Sec.waits
theorem ws_at {l : List Sec} {i : Nat} {s : Sec} (h : l[i]? = some s) : (l.map Sec.waits).getD i false = s.waits := by
  rw [List.getD_eq_getElem?_getD, List.getElem?_map, h]; rfl

set_option maxRecDepth 100000 in
set_option maxHeartbeats 1000000 in
theorem dwaits_any (w : World) (g b : Nat) (d : DSt) (h : Dev w g b d) :
    Calls Tryd.prog 43 #[.pointer (some ⟨g, 0, none⟩)] w fun e w' => ∃ x, e = .returned x ∧ w'.ownsRow w.heap.size 3 1 x (wlL d.ws).length ((wlL d.ws).map fun i : Nat => Value.int .i64 i) ∧ Below w.heap.size w w' := by
  have HN := Lib.hid (dnone_any w g b d h)
  have HD := Lib.hid h
  have HWL := Lib.hid (show wlL d.ws = wlN d.ws d.l.length from by unfold wlL DSt.ws; rw [List.length_map])
  obtain ⟨cap, h1, h2, k⟩ := h.blk
  have c0 : w.cell? ⟨g, 0, none⟩ = some (.slice (some ⟨b, 0, none⟩) d.l.length cap) := k.cell 0
  have hp := h.pos
  obtain ⟨i0, hi, hz0, hz1, hz2⟩ := info_parts infoInt
  clear h k
  go_enter Tryd.func43, Tryd.ntmps43
  go_wp2_with fail
  refine HN.out.mono ?_
  rintro e w1 ⟨rfl, rfl⟩
  go_wp2
  go_loopw [3, 12] (fun l i wr => ∃ (k : Nat) (v : Value), v = l ∧ k ≤ d.l.length ∧ i = .int .i64 k ∧ wr.ownsRow w.heap.size 3 1 v (wlN d.ws k).length ((wlN d.ws k).map fun i : Nat => Value.int .i64 i) ∧ Below w.heap.size w wr) (fun _ i _ => d.l.length - (intOf i).toNat)
  case atStart => exact ⟨0, _, rfl, by omega, rfl, World.ownsRow_nil _ _ _ _, Below.refl _ _⟩
  case round =>
    clear c0
    obtain ⟨k, v, rfl, hk, rfl, hO, hb⟩ := hrel
    have hDr := HD.out.below hb
    obtain ⟨cap, h1, h2, kk⟩ := hDr.blk
    have c0 : wr.cell? ⟨g, 0, none⟩ = some (.slice (some ⟨b, 0, none⟩) d.l.length cap) := kk.cell 0
    obtain ⟨va, vn, vc, rfl⟩ := (Sl.of_owns hO).val
    by_cases hlt : k < d.l.length
    · have hkI : (k : Int) < (d.l.length : Int) := by omega
      have hg : d.l[k]? = some d.l[k] := List.getElem?_eq_getElem hlt
      have c8 := (hDr.row.at_ k _ hg).waits
      have hw8 : d.ws.getD k false = d.l[k].waits := ws_at hg
      generalize d.l[k].waits = x at *
      have HB := Lib.hid (wlN_bound d.ws k)
      cases x with
      | true =>
        have HT := Lib.hid (show wlN d.ws (k + 1) = wlN d.ws k ++ [k] from by rw [wlN, if_pos hw8])
        have HT2 := Lib.hid (show (wlN d.ws (k + 1)).map (fun i : Nat => Value.int .i64 i) = (wlN d.ws k).map (fun i : Nat => Value.int .i64 i) ++ [.int .i64 k] ∧ (wlN d.ws (k + 1)).length = (wlN d.ws k).length + 1 from by rw [HT.out]; simp)
        generalize (wlN d.ws k).map (fun i : Nat => Value.int .i64 i) = XS at *
        generalize (wlN d.ws k).length = n at *
        have hbA : Below wr.heap.size wr (wr.alloc (.cells #[.int .i64 k] 3)) := (Below.refl _ _).alloc (Nat.le_refl _) _
        have hO3 := ownsRow_below hO hbA (Nat.le_refl _)
        have hc3 := (Blk.new wr 3 #[.int .i64 k]).cell 0
        have hbA2 := hb.trans (hbA.mono hb.size)
        clear hDr kk hg hw8 hO hbA hb HT
        go_wp2_with (at_builtin; refine wpList_append_own _ rfl _ _ 70 rfl w.heap.size 3 i0 (.int .i64 0) 1 8 Tryd.underlying70 hi hz0 hz1 hz2 rfl (by decide) _ n XS rfl hO3 ⟨wr.heap.size, 0, none⟩ 1 1 [.int .i64 k] rfl rfl (fun j u hj => by match j, hj with | 0, hj => (simp at hj; subst hj; exact hc3) | j + 1, hj => simp at hj) (by simp [Value.oneCell']) (by have := HB.out; unfold maxLen; omega) (by have := HB.out; omega) hbA2.size ?_)
        intro v5 w5 hO5 hg5 _
        have hb6 := below_grown hbA2 hO3 (Nat.le_refl _) hbA2.size hg5
        rw [← HT2.out.1, ← HT2.out.2] at hO5
        clear hg5 hO3 hc3 hbA2
        go_wp2
        go_roundw
        case rel => exact ⟨k + 1, v5, rfl, by omega, by go_num, hO5, hb6⟩
        case measure => simp [intOf]; omega
      | false =>
        have HT := Lib.hid (show wlN d.ws (k + 1) = wlN d.ws k from by rw [wlN, if_neg (by rw [hw8]; simp), List.append_nil])
        clear hDr kk hg hw8
        go_wp2
        go_roundw
        case rel => exact ⟨k + 1, _, rfl, by omega, by go_num, by rw [HT.out]; exact hO, hb⟩
        case measure => simp [intOf]; omega
    · obtain rfl : k = d.l.length := by omega
      have hkI : ¬ (d.l.length : Int) < (d.l.length : Int) := by omega
      clear hDr kk
      go_wp2
      go_ret
      exact ⟨_, rfl, by rw [HWL.out]; exact hO, hb⟩

/-- What a crash makes of a sector that waits, the k-th of them. -/
def crS (keep : List Int) (k : Nat) (s : Sec) : Sec := if keep.length ≤ k ∨ keep.getD k 0 = 0 then { now := s.kept, kept := s.kept, waits := false } else { now := s.now, kept := s.now, waits := false }
def crF (ws : List Bool) (keep : List Int) (i : Nat) (s : Sec) : Sec := if s.waits = true then crS keep (wlN ws i).length s else s
def crK (l : List Sec) (keep : List Int) (k : Nat) : List Sec := l.mapIdx fun i s => if s.waits = true ∧ (wlN (l.map Sec.waits) i).length < k then crS keep (wlN (l.map Sec.waits) i).length s else s
def crashL (l : List Sec) (keep : List Int) : List Sec := l.mapIdx (crF (l.map Sec.waits) keep)
def DSt.crash (d : DSt) (keep : List Int) : DSt := { l := crashL d.l keep, dead := false, fused := false, burns := 0, changes := d.changes }
theorem crS_ok {keep : List Int} {k : Nat} {s : Sec} (h : s.ok) : (crS keep k s).ok := by
  unfold crS
  split
  · exact ⟨h.2.1, h.2.1, h.2.2.2.1, h.2.2.2.1, fun _ => rfl⟩
  · exact ⟨h.1, h.1, h.2.2.1, h.2.2.1, fun _ => rfl⟩
theorem crF_ok {ws : List Bool} {keep : List Int} {i : Nat} {s : Sec} (h : s.ok) : (crF ws keep i s).ok := by
  unfold crF; split
  · exact crS_ok h
  · exact h
theorem crK_zero (l : List Sec) (keep : List Int) : crK l keep 0 = l := by
  apply List.ext_getElem?; intro i
  unfold crK
  rw [List.getElem?_mapIdx]
  simp
theorem crK_all (l : List Sec) (keep : List Int) : crK l keep (wlL (l.map Sec.waits)).length = crashL l keep := by
  apply List.ext_getElem?; intro i
  unfold crK crashL
  rw [List.getElem?_mapIdx, List.getElem?_mapIdx]
  rcases Nat.lt_or_ge i l.length with h | h
  · rw [List.getElem?_eq_getElem h, Option.map_some, Option.map_some]
    congr 1
    unfold crF
    by_cases hw : l[i].waits = true
    · have h1 : (l.map Sec.waits).getD i false = true := by rw [ws_at (List.getElem?_eq_getElem h)]; exact hw
      have h2 := wlN_lt h1 (j := (l.map Sec.waits).length) (by rw [List.length_map]; exact h)
      rw [if_pos ⟨hw, h2⟩, if_pos hw]
    · rw [if_neg (fun q => hw q.1), if_neg hw]
  · rw [List.getElem?_eq_none h]; rfl
/-- The k-th that waits. -/
theorem crK_at {l : List Sec} (keep : List Int) {k : Nat} (hk : k < (wlL (l.map Sec.waits)).length) : ∃ i s, (wlL (l.map Sec.waits))[k]? = some i ∧ l[i]? = some s ∧ (crK l keep k)[i]? = some s ∧ (crK l keep k).set i (crS keep k s) = crK l keep (k + 1) := by
  obtain ⟨i, h1, h2, h3, h4⟩ := wlN_get (l.map Sec.waits) _ k hk
  rw [List.length_map] at h1
  have hg : l[i]? = some l[i] := List.getElem?_eq_getElem h1
  have hw : l[i].waits = true := by rw [← ws_at hg]; exact h3
  refine ⟨i, l[i], h2, hg, ?_, ?_⟩
  · unfold crK
    rw [List.getElem?_mapIdx, hg, Option.map_some, if_neg (fun q => by omega)]
  · apply List.ext_getElem?; intro j
    unfold crK
    by_cases e : i = j
    · subst e
      rw [List.getElem?_set_self (by rw [List.length_mapIdx]; exact h1), List.getElem?_mapIdx, hg, Option.map_some, if_pos ⟨hw, by omega⟩, h4]
    · rw [List.getElem?_set_ne e, List.getElem?_mapIdx, List.getElem?_mapIdx]
      rcases Nat.lt_or_ge j l.length with q | q
      · rw [List.getElem?_eq_getElem q, Option.map_some, Option.map_some]
        congr 1
        by_cases hwj : l[j].waits = true
        · have h5 : (l.map Sec.waits).getD j false = true := by rw [ws_at (List.getElem?_eq_getElem q)]; exact hwj
          have h6 : (wlN (l.map Sec.waits) j).length ≠ k := fun he => e (wlN_inj h3 h5 (h4.trans he.symm))
          by_cases hlt : (wlN (l.map Sec.waits) j).length < k
          · rw [if_pos ⟨hwj, hlt⟩, if_pos ⟨hwj, by omega⟩]
          · rw [if_neg (fun z => hlt z.2), if_neg (fun z => by omega)]
        · rw [if_neg (fun z => hwj z.1), if_neg (fun z => hwj z.1)]
      · rw [List.getElem?_eq_none q]; rfl

end Go.Proofs.YtgfkejecigefbaaDoor
