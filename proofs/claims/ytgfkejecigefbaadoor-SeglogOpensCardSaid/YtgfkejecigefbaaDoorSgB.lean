
/- bytes.Trim of one byte, as seglog.blank asks it. Conditions: none. -/
import Derived.Test.YtgfkejecigefbaaDoorSgA
import Derived.Deep.RegionHeld3
import Derived.Deep.Cut
namespace Go.Proofs.YtgfkejecigefbaaDoor
open Go.RowKit
set_option linter.unusedVariables false

theorem Sl.take_ {w : World} {b o n c : Nat} {bs : List Int} (h : Sl w (.slice (some ⟨b, o, none⟩) n c) (bs.map (Value.int .u8))) (k : Nat) (hk : k ≤ n) : Sl w (.slice (some ⟨b, o, none⟩) k c) ((bs.take k).map (Value.int .u8)) := by
  obtain ⟨a', c', e, h1, h2, h3⟩ := h
  rw [List.length_map] at *
  cases e
  have hl : ((bs.take k).map (Value.int .u8)).length = k := by simp; omega
  refine ⟨_, c, by rw [hl], by omega, h2, fun hp => ?_⟩
  obtain ⟨b', o', e, hlt, hc⟩ := h3 (by omega)
  cases e
  refine ⟨b, o, rfl, hlt, fun j u hu => ?_⟩
  rw [List.getElem?_map, List.getElem?_take] at hu
  split at hu
  · exact hc j u (by rw [List.getElem?_map]; exact hu)
  · cases hu

set_option maxHeartbeats 1000000 in
theorem trimR_any (v : Value) (bs : List Int) (c : Int) (w : World) (h : Sl w v (bs.map (Value.int .u8))) :
    Calls Tryd.prog 111 #[v, .int .u8 c] w fun e w' => ∃ x k, e = .returned x ∧ k ≤ bs.length ∧ Sl w x ((bs.take k).map (Value.int .u8)) ∧ (∀ j, k ≤ j → j < bs.length → bs.getD j 0 = c) ∧ (0 < k → bs.getD (k - 1) 0 ≠ c) ∧ w = w' := by
  by_cases hz : bs.length = 0
  · obtain ⟨a, cp, rfl, hc, hm⟩ := h.shape
    obtain rfl : bs = [] := List.eq_nil_of_length_eq_zero hz
    simp only [List.map_nil, List.length_nil] at *
    have HH := Lib.hid h
    clear h hz
    go_enter Tryd.func111, Tryd.ntmps111
    go_wp2
    go_loopw [0] (fun s wr => s = .slice a 0 cp ∧ w = wr) (fun _ _ => 0)
    case atStart => exact ⟨rfl, rfl⟩
    case round =>
      obtain ⟨rfl, rfl⟩ := hrel
      go_wp2
      go_ret
      exact ⟨_, 0, rfl, by simp, HH.out, by simp, by simp, rfl⟩
  · obtain ⟨a, cp, rfl, hc, hm⟩ := h.shape
    rw [List.length_map] at *
    obtain ⟨b, o, rfl, hlt, hcell⟩ := h.addr (by rw [List.length_map]; omega)
    have HH := Lib.hid h
    have HC := Lib.hid hcell
    clear h hcell
    go_enter Tryd.func111, Tryd.ntmps111
    go_wp2
    go_loopw [0] (fun s wr => ∃ k : Nat, k ≤ bs.length ∧ s = .slice (some ⟨b, o, none⟩) k cp ∧ Hid (∀ j, k ≤ j → j < bs.length → bs.getD j 0 = c) ∧ w = wr) (fun s _ => match s with | .slice _ n _ => n | _ => 0)
    case atStart => exact ⟨bs.length, by omega, rfl, Lib.hid (fun j h1 h2 => by omega), rfl⟩
    case round =>
      obtain ⟨k, hk, rfl, hall, rfl⟩ := hrel
      by_cases h0 : k = 0
      · subst h0
        go_wp2
        go_ret
        exact ⟨_, 0, rfl, by simp, HH.out.take_ 0 (by omega), hall.out, by simp, rfl⟩
      · obtain ⟨m, rfl⟩ : ∃ m, k = m + 1 := ⟨k - 1, by omega⟩
        have hq : ((m + 1 : Nat) : Int) - 1 = m := by omega
        have q0 : w.cell? ⟨b, o + m, none⟩ = some (.int .u8 (bs.getD m 0)) := HC.out m _ (by rw [List.getElem?_map, List.getD_eq_getElem?_getD, List.getElem?_eq_getElem (by omega)]; rfl)
        have HG := Lib.hid (show ∀ y, bs.getD m 0 = y → True from fun _ _ => trivial)
        obtain ⟨y, hy⟩ : ∃ y, y = bs.getD m 0 := ⟨_, rfl⟩
        rw [← hy] at q0
        have HY := Lib.hid hy
        clear hy
        by_cases he : y = c
        · subst he
          clear q0
          have q0 : w.cell? ⟨b, o + m, none⟩ = some (.int .u8 y) := HC.out m _ (by rw [List.getElem?_map, HY.out, List.getD_eq_getElem?_getD, List.getElem?_eq_getElem (by omega)]; rfl)
          go_wp2
          go_roundw
          case rel => exact ⟨m, by omega, rfl, Lib.hid (fun j h1 h2 => by
            by_cases e : j = m
            · subst e; exact HY.out.symm
            · exact hall.out j (by omega) h2), trivial⟩
          case measure => show m < m + 1; omega
        · have heb : (y == c) = false := by rw [beq_eq_false_iff_ne]; exact he
          go_wp2
          go_ret
          exact ⟨_, m + 1, rfl, hk, HH.out.take_ (m + 1) hk, hall.out, fun _ e => he (by rw [HY.out]; exact e), rfl⟩

set_option maxHeartbeats 1000000 in
theorem trimL_any (v : Value) (bs : List Int) (c : Int) (w : World) (h : Sl w v (bs.map (Value.int .u8))) :
    Calls Tryd.prog 110 #[v, .int .u8 c] w fun e w' => ∃ a n cp, e = .returned (.slice a n cp) ∧ (n = 0 ↔ ∀ j, j < bs.length → bs.getD j 0 = c) ∧ w = w' := by
  obtain ⟨a, cp, rfl, hc, hm⟩ := h.shape
  have HH := Lib.hid h
  have HCM := Lib.hid (And.intro hc hm)
  clear h hc hm
  rw [List.length_map] at *
  go_enter Tryd.func110, Tryd.ntmps110
  go_wp2
  go_loopw [0] (fun s wr => ∃ (k : Nat) (a' : Option Addr) (n' c' : Nat), k ≤ bs.length ∧ s = .slice a' n' c' ∧ Hid (n' = bs.length - k ∧ Sl w s ((bs.drop k).map (Value.int .u8))) ∧ Hid (∀ j, j < k → bs.getD j 0 = c) ∧ w = wr) (fun s _ => match s with | .slice _ n _ => n | _ => 0)
  case atStart => exact ⟨0, _, _, _, by omega, rfl, Lib.hid ⟨rfl, HH.out⟩, Lib.hid (fun j h1 => by omega), rfl⟩
  case round =>
    obtain ⟨k, a', n', c', hk, rfl, hs, hall, rfl⟩ := hrel
    by_cases h0 : n' = 0
    · have HE := Lib.hid (show k = bs.length from by have := hs.out.1; omega)
      subst h0
      go_wp2
      go_ret
      exact ⟨_, _, _, rfl, ⟨fun _ j hj => hall.out j (by rw [HE.out]; exact hj), fun _ => rfl⟩, rfl⟩
    · have hlt : k < bs.length := by have := hs.out.1; omega
      obtain ⟨b, o, rfl, hltb, hcell⟩ := hs.out.2.addr (by rw [List.length_map, List.length_drop]; omega)
      have q0 : w.cell? ⟨b, o, none⟩ = some (.int .u8 (bs.getD k 0)) := by
        have := hcell 0 (.int .u8 (bs.getD k 0)) (by rw [List.getElem?_map, List.getElem?_drop, Nat.add_zero, List.getD_eq_getElem?_getD, List.getElem?_eq_getElem hlt]; rfl)
        simpa using this
      clear hcell
      have HS := Lib.hid hs.out.2
      have HN := Lib.hid hs.out.1
      obtain ⟨hn1, hn2⟩ : n' ≤ c' ∧ c' ≤ 9223372036854775807 := by
        obtain ⟨a1, c1, e1, e2, e3, _⟩ := hs.out.2
        cases e1
        unfold maxLen at e3
        rw [List.length_map, List.length_drop] at e2
        exact ⟨by have := hs.out.1; omega, e3⟩
      clear hs
      obtain ⟨y, hy⟩ : ∃ y, y = bs.getD k 0 := ⟨_, rfl⟩
      rw [← hy] at q0
      have HY := Lib.hid hy
      clear hy
      by_cases he : y = c
      · subst he
        have hnI : ((0 : Int) < (n' : Int)) := by omega
        go_wp2_with (refine wpList_from rfl _ _ 26 5 rfl Tryd.underlying26 size8 _ 1 _ rfl HS.out rfl (by simp; omega) ?_; rintro ad cap h4; have H4 := Lib.hid h4; clear h4)
        go_roundw
        case rel => exact ⟨k + 1, _, _, _, by omega, rfl, Lib.hid ⟨by omega, by have h := H4.out; rw [← List.map_drop, List.drop_drop, List.length_map, List.length_drop] at h; exact h⟩, Lib.hid (fun j hj => by
          by_cases e : j = k
          · subst e; exact HY.out.symm
          · exact hall.out j (by omega)), trivial⟩
        case measure => show bs.length - k - 1 < n'; have := HN.out; omega
      · have heb : (y == c) = false := by rw [beq_eq_false_iff_ne]; exact he
        have hnI : ((0 : Int) < (n' : Int)) := by omega
        have hzI : ((n' : Int) == 0) = false := by rw [beq_eq_false_iff_ne]; omega
        go_wp2
        go_ret
        exact ⟨_, _, _, rfl, ⟨fun e => absurd e h0, fun e => absurd (HY.out.trans (e k hlt)) he⟩, rfl⟩

theorem trim_iff {bs : List Int} {k n2 : Nat} (hk : k ≤ bs.length) (ha : ∀ j, k ≤ j → j < bs.length → bs.getD j 0 = 0) (hn2 : n2 = 0 ↔ ∀ j, j < (bs.take k).length → (bs.take k).getD j 0 = 0) : n2 = 0 ↔ ∀ j, j < bs.length → bs.getD j 0 = 0 := by
  have hlk : (bs.take k).length = k := by rw [List.length_take]; omega
  have hg : ∀ j, j < k → (bs.take k).getD j 0 = bs.getD j 0 := fun j hj => by
    rw [List.getD_eq_getElem?_getD, List.getD_eq_getElem?_getD, List.getElem?_take, if_pos hj]
  rw [hn2, hlk]
  constructor
  · intro h j hj
    by_cases hjk : j < k
    · rw [← hg j hjk]; exact h j hjk
    · exact ha j (by omega) hj
  · intro h j hj
    rw [hg j hj]; exact h j (by omega)
set_option maxRecDepth 100000 in
set_option maxHeartbeats 1000000 in
theorem trim0_any (v : Value) (bs : List Int) (w : World) (h : Sl w v (bs.map (Value.int .u8))) :
    Calls Tryd.prog 88 #[v, .string ⟨#[0]⟩] w fun e w' => ∃ a n cp, e = .returned (.slice a n cp) ∧ (n = 0 ↔ ∀ j, j < bs.length → bs.getD j 0 = 0) ∧ ∃ n, w' = w.drewN n := by
  obtain ⟨a, cp, rfl, hc, hm⟩ := h.shape
  rw [List.length_map] at *
  have HH := Lib.hid h
  clear h
  by_cases h0 : bs.length = 0
  · have HZ := Lib.hid h0
    rw [h0] at hc ⊢
    rw [h0] at HH
    go_enter Tryd.func88, Tryd.ntmps88
    go_wp2
    go_ret
    exact ⟨_, _, _, rfl, by simp, 0, rfl⟩
  · have hzI : ((bs.length : Int) == 0) = false := by rw [beq_eq_false_iff_ne]; omega
    have HR := Lib.hid (fun w' (hb : Below w.heap.size w w') => trimR_any _ bs 0 w' (HH.out.below hb (Nat.le_refl _)))
    have HL := Lib.hid (fun (k : Nat) (x : Value) (w' : World) (hs : Sl w' x ((bs.take k).map (Value.int .u8))) => trimL_any x (bs.take k) 0 w' hs)
    go_enter Tryd.func88, Tryd.ntmps88
    go_upto_region 6 with (fail)
    go_region_held3 (fun w' => True) (exact trivial) (first
      | (go_at_call 111; refine (HR.out _ (by first | exact Below.refl _ _ | exact (Below.refl _ _).drew)).mono ?_; rintro e w2 ⟨x, k, rfl, hk, hx, hall, hne, rfl⟩; have HX := Lib.hid hx; have HA := Lib.hid hall; have HE := Lib.hid hne; have HK := Lib.hid hk; clear hx hall hne hk)
      | (go_at_call 110; refine (HL.out k x _ HX.out).mono ?_; rintro e w3 ⟨a2, n2, c2, rfl, hn2, rfl⟩))
    all_goals (go_wp2; go_ret; exact ⟨_, _, _, rfl, trim_iff HK.out HA.out hn2, 1, rfl⟩)

def blankI (bs : List Int) : Bool := decide (bs = zS)
theorem blank_iff {bs : List Int} (h : bs.length = 64) : (∀ j, j < bs.length → bs.getD j 0 = 0) ↔ bs = zS := by
  constructor
  · intro hj
    apply List.ext_getElem?
    intro i
    by_cases hi : i < bs.length
    · have := hj i hi
      rw [List.getD_eq_getElem?_getD, List.getElem?_eq_getElem hi] at this
      rw [List.getElem?_eq_getElem hi, zS, List.getElem?_replicate, if_pos (by omega)]
      exact congrArg some this
    · rw [List.getElem?_eq_none (by omega), zS, List.getElem?_replicate, if_neg (by omega)]
  · rintro rfl j hj
    unfold zS
    rw [List.getD_eq_getElem?_getD, List.getElem?_replicate]
    split <;> rfl
set_option maxHeartbeats 400000 in
theorem sblank_any (v : Value) (bs : List Int) (w : World) (hl : bs.length = 64) (h : Sl w v (bs.map (Value.int .u8))) :
    Calls Tryd.prog 65 #[v] w fun e w' => e = .returned (.bool (blankI bs)) ∧ ∃ n, w' = w.drewN n := by
  have HT := Lib.hid (trim0_any v bs w h)
  obtain ⟨a, cp, rfl, hc, hm⟩ := h.shape
  rw [List.length_map] at *
  have HI := Lib.hid (blank_iff hl)
  clear h hl
  go_enter Tryd.func65, Tryd.ntmps65
  go_wp2_with fail
  refine HT.out.mono ?_
  rintro e w2 ⟨x, n, cp2, rfl, hn, k, rfl⟩
  have HN := Lib.hid hn
  clear hn
  go_wp2
  go_ret
  refine ⟨ret_bool ?_, k, rfl⟩
  unfold blankI
  by_cases h0 : n = 0
  · subst h0
    rw [decide_eq_true (HI.out.1 (HN.out.1 rfl))]; rfl
  · rw [decide_eq_false (fun e => h0 (HN.out.2 (HI.out.2 e)))]
    simp; exact h0

end Go.Proofs.YtgfkejecigefbaaDoor
