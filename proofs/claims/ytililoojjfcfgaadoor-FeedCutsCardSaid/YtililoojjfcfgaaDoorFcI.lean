/- The program's Range, in a list of the call's own (printed from XMerE). The walks of a search for a text of another length. The walks of next and of the folder's root. Plain laws: what shows a range leads back to the root. Plain laws: what shows a range, part by part, as the document cuts it. -/
import Derived.Test.YtililoojjfcfgaaDoorMerEM
import Derived.Test.YtililoojjfcfgaaDoorTextA
import Derived.Test.YtililoojjfcfgaaDoorFcA
namespace Go.Proofs.YtililoojjfcfgaaDoor
open Go.RowKit
set_option linter.unusedVariables false

set_option maxRecDepth 100000 in
set_option maxHeartbeats 2000000 in
theorem range_own (size : Int) (lv : Value) (l : List (List Int)) (f t : Int) (w : World) (hlen : l.length ≤ 1073741824) (hB : ∀ p ∈ l, IsB p) (hP : ∀ p ∈ l, p.length ≤ 140737488351232) (hs : Sls w lv l) (ht : Tabs w) :
    Calls Tryd.prog 63 #[.int .i64 size, lv, .int .i64 f, .int .i64 t] w fun e w' => ∃ x, e = .returned x ∧ OSls w' w.heap.size x (if 0 ≤ f ∧ f ≤ t ∧ t ≤ l.length then partsI size l (outs f t 0 l.length) else []) ∧ Below w.heap.size w w' := by
  obtain ⟨la, lc, rfl, hlc, hlm⟩ := hs.shape
  have HI := Lib.hid (fun w1 => inB_any f t l.length w1 (by omega))
  have hb0 : Below w.heap.size w (((w.alloc (.cells #[.int .i64 size] 3)).alloc (.cells #[.slice la l.length lc] 23)).alloc (.cells #[.int .i64 f, .int .i64 t] 144)) := (((Below.refl _ _).alloc (Nat.le_refl _) _).alloc (by simp) _).alloc (by simp; omega) _
  have k1 : Blk (((w.alloc (.cells #[.int .i64 size] 3)).alloc (.cells #[.slice la l.length lc] 23)).alloc (.cells #[.int .i64 f, .int .i64 t] 144)) w.heap.size 3 #[.int .i64 size] := ((Blk.new w _ _).alloc _).alloc _
  have k2 : Blk (((w.alloc (.cells #[.int .i64 size] 3)).alloc (.cells #[.slice la l.length lc] 23)).alloc (.cells #[.int .i64 f, .int .i64 t] 144)) (w.heap.size + 1) 23 #[.slice la l.length lc] := by
    have := (Blk.new (w.alloc (.cells #[.int .i64 size] 3)) 23 #[.slice la l.length lc]).alloc (.cells #[.int .i64 f, .int .i64 t] 144)
    simpa using this
  have k3 : Blk (((w.alloc (.cells #[.int .i64 size] 3)).alloc (.cells #[.slice la l.length lc] 23)).alloc (.cells #[.int .i64 f, .int .i64 t] 144)) (w.heap.size + 1 + 1) 144 #[.int .i64 f, .int .i64 t] := by
    have := Blk.new ((w.alloc (.cells #[.int .i64 size] 3)).alloc (.cells #[.slice la l.length lc] 23)) 144 #[.int .i64 f, .int .i64 t]
    simpa using this
  have HS := Lib.hid (fun v (h : Below w.heap.size w v) => hs.below h (Nat.le_refl _))
  have HT := Lib.hid (fun v (h : Below w.heap.size w v) => ht.below h)
  generalize hw3 : (((w.alloc (.cells #[.int .i64 size] 3)).alloc (.cells #[.slice la l.length lc] 23)).alloc (.cells #[.int .i64 f, .int .i64 t] 144)) = w3 at *
  have q2 : w3.cell? ⟨w.heap.size + 1, 0, none⟩ = some (.slice la l.length lc) := k2.cell 0
  have q30 : w3.cell? ⟨w.heap.size + 1 + 1, 0, none⟩ = some (.int .i64 f) := k3.cell 0
  have q31 : w3.cell? ⟨w.heap.size + 1 + 1, 1, none⟩ = some (.int .i64 t) := k3.cell 1
  by_cases hin : 0 ≤ f ∧ f ≤ t ∧ t ≤ l.length
  · rw [if_pos hin]
    simp only [decide_eq_true hin] at HI
    clear hs ht hin
    go_enter Tryd.func63, Tryd.ntmps63
    go_wp2_with fail
    refine (HI.out w3).mono ?_
    rintro e w4 ⟨rfl, hb4⟩
    have k1 := k1.belowS hb4
    have k2 := k2.belowS hb4
    have k3 := k3.belowS hb4
    have hb4 := below_trans2 hb0 hb4
    have hne : w.heap.size + 1 ≠ w4.heap.size := by have := k2.lt; omega
    clear q2 q30 q31 hb0
    have hbA : Below w4.heap.size w4 (w4.alloc (.cells #[.slice none 0 0] 23)) := (Below.refl _ _).alloc (Nat.le_refl _) _
    have k1 := k1.belowS hbA
    have k2 := k2.belowS hbA
    have k3 := k3.belowS hbA
    have k4 := Blk.new w4 23 #[.slice none 0 0]
    have hb5 := below_trans2 hb4 hbA
    have q2 : (w4.alloc (.cells #[.slice none 0 0] 23)).cell? ⟨w.heap.size + 1, 0, none⟩ = some (.slice la l.length lc) := k2.cell 0
    have q30 : (w4.alloc (.cells #[.slice none 0 0] 23)).cell? ⟨w.heap.size + 1 + 1, 0, none⟩ = some (.int .i64 f) := k3.cell 0
    have q31 : (w4.alloc (.cells #[.slice none 0 0] 23)).cell? ⟨w.heap.size + 1 + 1, 1, none⟩ = some (.int .i64 t) := k3.cell 1
    go_wp2_with fail
    generalize (w4.alloc (.cells #[.slice none 0 0] 23)) = w5 at *
    refine (outsideR_any w4.heap.size w.heap.size (w.heap.size + 1) (fun v d => Below w.heap.size w v ∧ Blk v w.heap.size 3 #[.int .i64 size] ∧ Blk v (w.heap.size + 1) 23 #[.slice la l.length lc] ∧ ∃ vo, Blk v w4.heap.size 23 #[vo] ∧ OSls v w.heap.size vo (partsI size l d)) ?cI 0 l.length (by omega) (by omega) ?cK f t l.length l.length (Nat.le_refl _) 0 [] w5 (by omega) (by omega) (by simp) ⟨hb5, k1, k2, _, k4, OSls.nil _ _⟩).mono ?_
    case cI => exact fun v v' d ⟨h1, h2, h3, vo, h4, h5⟩ hb => ⟨below_trans2 h1 hb, h2.belowS hb, h3.belowS hb, vo, h4.belowS hb, h5.below hb⟩
    case cK =>
      intro a n d v ha1 ha2 hn hd ⟨h1, h2, h3, vo, h4, h5⟩
      obtain ⟨a, rfl⟩ : ∃ b : Nat, a = b := ⟨a.toNat, by omega⟩
      refine (range1_any size (.slice la l.length lc) l a n vo (partsI size l d) w.heap.size w4.heap.size w.heap.size (w.heap.size + 1) v (by omega) hB hP (by omega) hn (by unfold partsI; rw [List.length_map]; omega) h4 h2 h3 hne h5 h1.size hb4.size (HS.out _ h1) (HT.out _ h1)).mono ?_
      rintro e v' ⟨rfl, ⟨vo', h6, h7⟩, h8, h9⟩
      refine ⟨rfl, ⟨h1.trans h8, h9 _ _ _ ?_ (by decide) h2, h9 _ _ _ hne (by decide) h3, vo', h6, by rw [partsI_snoc]; exact h7⟩, fun g cs hg => h9 _ _ _ ?_ (by decide) hg⟩
      · exact Blk.ne_ h2 h4 (by decide)
      · exact Blk.ne_ hg h4 (by decide)
    rintro e w6 ⟨rfl, ⟨hb6, _, _, vo, k6, hO⟩, _⟩
    rw [List.nil_append] at hO
    have q6 : w6.cell? ⟨w4.heap.size, 0, none⟩ = some vo := k6.cell 0
    obtain ⟨va, vc, rfl⟩ := hO.val
    clear k1 k2 k3 k4 q2 q30 q31 k6
    go_wp2
    go_ret
    exact ⟨_, rfl, hO, hb6⟩
  · rw [if_neg hin]
    simp only [decide_eq_false hin] at HI
    clear hs ht hin
    go_enter Tryd.func63, Tryd.ntmps63
    go_wp2_with fail
    refine (HI.out w3).mono ?_
    rintro e w4 ⟨rfl, hb4⟩
    have hb4 := below_trans2 hb0 hb4
    go_wp2
    go_ret
    exact ⟨_, rfl, OSls.nil _ _, hb4⟩

end Go.Proofs.YtililoojjfcfgaaDoor

namespace Go.Proofs.YtililoojjfcfgaaDoor
open Go.RowKit
set_option linter.unusedVariables false

theorem mfOdd_any (v : Value) (bs : List Int) (cs : Nat) (size : Int) (w : World) (hz : Blk w cs 3 #[.int .i64 size]) (hs : Sl w v (bs.map (Value.int .u8))) :
    Calls Tryd.prog 147 #[v, .pointer (some ⟨cs, 0, none⟩)] w fun e w' => e = .returned (.bool (decide (¬ (bs.length : Int) = size))) ∧ w = w' := by
  obtain ⟨a, cap, rfl, hc, hm⟩ := hs.shape
  rw [List.length_map] at *
  have hz0 := hz.cell 0
  obtain ⟨bb, hbb⟩ : ∃ bb, bb = decide (¬ (bs.length : Int) = size) := ⟨_, rfl⟩
  rw [← hbb]
  have HB := Lib.hid hbb
  clear hbb
  go_enter Tryd.func147, Tryd.ntmps147
  go_wp2
  go_ret
  exact ⟨ret_bool (by rw [HB.out]; by_cases h : (bs.length : Int) = size <;> simp [h]), rfl⟩

set_option maxHeartbeats 1000000 in
theorem mfIndex_any (v : Value) (pss : List (List Int)) (cs : Nat) (size : Int) (w : World) (hz : Blk w cs 3 #[.int .i64 size]) (h : Sls w v pss) :
    Calls Tryd.prog 132 #[v, .func (.func 147) #[] #[.pointer (some ⟨cs, 0, none⟩)]] w fun e w' => ∃ r : Int, e = .returned (.int .i64 r) ∧ (0 ≤ r ↔ ∃ p ∈ pss, ¬ (p.length : Int) = size) ∧ w = w' := by
  obtain ⟨a, cap, rfl, hc, hm⟩ := h.shape
  go_enter Tryd.func132, Tryd.ntmps132
  go_wp2
  go_loopw [8] (fun i wr => ∃ k : Nat, k ≤ pss.length ∧ i = .int .i64 k ∧ Hid (∀ j, j < k → ¬ ¬ ((pss.getD j []).length : Int) = size) ∧ w = wr) (fun i _ => pss.length - (intOf i).toNat)
  case atStart => exact ⟨0, by omega, rfl, fun j hj => absurd hj (by omega), rfl⟩
  case round =>
    obtain ⟨k, hk, rfl, hall, rfl⟩ := hrel
    by_cases hlt : k < pss.length
    · obtain ⟨b, off, rfl, hb, u, hu, hs⟩ := h.at hlt
      have hkI : (k : Int) < (pss.length : Int) := by omega
      go_wp2_with fail
      refine (mfOdd_any u _ cs size w hz hs).mono ?_
      by_cases hl : ¬ ((pss.getD k []).length : Int) = size
      · rw [show decide (¬ ((pss.getD k []).length : Int) = size) = true by simpa using hl]
        rintro e w1 ⟨rfl, rfl⟩
        have HL := Lib.hid hl
        clear hl hs hu
        go_wp2
        go_ret
        refine ⟨_, rfl, ⟨fun _ => ⟨pss[k], List.getElem_mem hlt, ?_⟩, fun _ => by omega⟩, rfl⟩
        have := HL.out
        rwa [List.getD_eq_getElem?_getD, List.getElem?_eq_getElem hlt] at this
      · rw [show decide (¬ ((pss.getD k []).length : Int) = size) = false by simpa using hl]
        rintro e w1 ⟨rfl, rfl⟩
        have HL := Lib.hid hl
        clear hl hs hu
        go_wp2
        go_roundw
        case rel =>
          refine ⟨k + 1, by omega, by go_num, fun j hj => ?_, by first | rfl | trivial⟩
          rcases Nat.lt_or_ge j k with h | h
          · exact hall.out j h
          · obtain rfl : j = k := by omega
            exact HL.out
        case measure => simp [intOf]; omega
    · have hkI : ¬ (k : Int) < (pss.length : Int) := by omega
      go_wp2
      go_ret
      refine ⟨_, rfl, ⟨fun h0 => absurd h0 (by decide), fun ⟨p, hp, hl⟩ => ?_⟩, rfl⟩
      obtain ⟨j, hj, rfl⟩ := List.mem_iff_getElem.1 hp
      have := hall.out j (by omega)
      rw [List.getD_eq_getElem?_getD, List.getElem?_eq_getElem hj] at this
      exact absurd hl this

theorem mfContains_any (v : Value) (pss : List (List Int)) (cs : Nat) (size : Int) (w : World) (hz : Blk w cs 3 #[.int .i64 size]) (h : Sls w v pss) :
    Calls Tryd.prog 93 #[v, .func (.func 147) #[] #[.pointer (some ⟨cs, 0, none⟩)]] w fun e w' => e = .returned (.bool (decide (∃ p ∈ pss, ¬ (p.length : Int) = size))) ∧ w = w' := by
  have hi := Lib.hid (mfIndex_any v pss cs size w hz h)
  go_enter Tryd.func93, Tryd.ntmps93
  go_wp2_with fail
  refine hi.out.mono ?_
  rintro e w1 ⟨r, rfl, hr, rfl⟩
  have HR := Lib.hid hr
  clear hr
  go_wp2
  go_ret
  exact ⟨ret_bool (by rw [decide_eq_decide]; exact HR.out), rfl⟩


end Go.Proofs.YtililoojjfcfgaaDoor

namespace Go.Proofs.YtililoojjfcfgaaDoor
open Go.RowKit
set_option linter.unusedVariables false

/-- The root over a part out of two lists of digests, and what is left of these. -/
def foldI (size f t : Int) (a : Int) (n : Nat) (ins os : List (List Int)) : List Int × List (List Int) × List (List Int) :=
  if ¬ (f < t ∧ f < a + n ∧ a < t) then (os.headD [], ins, os.tail)
  else if h : 2 ≤ n then
    (hashT size 4 [(foldI size f t a (half n) ins os).1, (foldI size f t (a + half n) (n - half n) (foldI size f t a (half n) ins os).2.1 (foldI size f t a (half n) ins os).2.2).1],
      (foldI size f t (a + half n) (n - half n) (foldI size f t a (half n) ins os).2.1 (foldI size f t a (half n) ins os).2.2).2)
  else (ins.headD [], ins.tail, os)
termination_by n
decreasing_by
  all_goals (have := half_lt n h; have := half_pos n; omega)

theorem foldI_out {size f t a : Int} {n : Nat} {ins os : List (List Int)} (h : ¬ (f < t ∧ f < a + n ∧ a < t)) : foldI size f t a n ins os = (os.headD [], ins, os.tail) := by rw [foldI, if_pos h]
theorem foldI_in {size f t a : Int} {ins os : List (List Int)} (h : f < t ∧ f < a + (1 : Nat) ∧ a < t) : foldI size f t a 1 ins os = (ins.headD [], ins.tail, os) := by rw [foldI, if_neg (fun h' => h' h), dif_neg (by omega)]
theorem foldI_two {size f t a : Int} {n : Nat} {ins os : List (List Int)} (h : f < t ∧ f < a + n ∧ a < t) (h2 : 2 ≤ n) : foldI size f t a n ins os = (hashT size 4 [(foldI size f t a (half n) ins os).1, (foldI size f t (a + half n) (n - half n) (foldI size f t a (half n) ins os).2.1 (foldI size f t a (half n) ins os).2.2).1],
      (foldI size f t (a + half n) (n - half n) (foldI size f t a (half n) ins os).2.1 (foldI size f t a (half n) ins os).2.2).2) := by rw [foldI, if_neg (fun h' => h' h), dif_pos h2]

/-- Whether there are enough digests for a part. -/
def enough (f t : Int) (a : Int) (n : Nat) (size : Int) (ins os : List (List Int)) : Prop :=
  if ¬ (f < t ∧ f < a + n ∧ a < t) then os ≠ []
  else if h : 2 ≤ n then enough f t a (half n) size ins os ∧ enough f t (a + half n) (n - half n) size (foldI size f t a (half n) ins os).2.1 (foldI size f t a (half n) ins os).2.2
  else ins ≠ []
termination_by n
decreasing_by
  all_goals (have := half_lt n h; have := half_pos n; omega)
theorem enough_out {size f t a : Int} {n : Nat} {ins os : List (List Int)} (h : ¬ (f < t ∧ f < a + n ∧ a < t)) (he : enough f t a n size ins os) : os ≠ [] := by rw [enough, if_pos h] at he; exact he
theorem enough_in {size f t a : Int} {ins os : List (List Int)} (h : f < t ∧ f < a + (1 : Nat) ∧ a < t) (he : enough f t a 1 size ins os) : ins ≠ [] := by rw [enough, if_neg (fun h' => h' h), dif_neg (by omega)] at he; exact he
theorem enough_two {size f t a : Int} {n : Nat} {ins os : List (List Int)} (h : f < t ∧ f < a + n ∧ a < t) (h2 : 2 ≤ n) (he : enough f t a n size ins os) : enough f t a (half n) size ins os ∧ enough f t (a + half n) (n - half n) size (foldI size f t a (half n) ins os).2.1 (foldI size f t a (half n) ins os).2.2 := by rw [enough, if_neg (fun h' => h' h), dif_pos h2] at he; exact he

theorem headD_mem {l : List (List Int)} {P : List Int → Prop} (h : ∀ p ∈ l, P p) (h0 : P []) : P (l.headD []) := by
  cases l with
  | nil => exact h0
  | cons x xs => exact h x (by simp)

theorem IsB.nil : IsB [] := fun x hx => by cases hx

theorem foldI_isB (size f t : Int) : ∀ (m n : Nat), n ≤ m → ∀ (a : Int) (ins os : List (List Int)), (∀ p ∈ ins, IsB p) → (∀ p ∈ os, IsB p) →
    IsB (foldI size f t a n ins os).1 ∧ (∀ p ∈ (foldI size f t a n ins os).2.1, IsB p) ∧ (∀ p ∈ (foldI size f t a n ins os).2.2, IsB p) := by
  intro m
  induction m with
  | zero =>
    intro n hn a ins os hi ho
    obtain rfl : n = 0 := by omega
    rw [foldI]
    split
    · exact ⟨headD_mem ho IsB.nil, hi, fun p hp => ho p (List.mem_of_mem_tail hp)⟩
    · rw [dif_neg (by omega)]
      exact ⟨headD_mem hi IsB.nil, fun p hp => hi p (List.mem_of_mem_tail hp), ho⟩
  | succ m ih =>
    intro n hn a ins os hi ho
    by_cases h : f < t ∧ f < a + n ∧ a < t
    · by_cases h2 : 2 ≤ n
      · rw [foldI_two h h2]
        have k1 := half_lt n h2
        have k2 := half_pos n
        obtain ⟨_, c2, c3⟩ := ih (half n) (by omega) a ins os hi ho
        obtain ⟨_, d2, d3⟩ := ih (n - half n) (by omega) (a + half n) _ _ c2 c3
        exact ⟨hashT_isB' _ _ _, d2, d3⟩
      · rw [foldI, if_neg (fun h' => h' h), dif_neg h2]
        exact ⟨headD_mem hi IsB.nil, fun p hp => hi p (List.mem_of_mem_tail hp), ho⟩
    · rw [foldI_out h]
      exact ⟨headD_mem ho IsB.nil, hi, fun p hp => ho p (List.mem_of_mem_tail hp)⟩

def NextPost (fb off : Nat) (l : List (List Int)) (W w : World) (e : Ending) (w' : World) : Prop :=
  ∃ x lv', e = .returned x ∧ Sl W x ((l.headD []).map (Value.int .u8)) ∧ Sls W lv' l.tail ∧ w.setCell ⟨fb, off, none⟩ lv' = w'

set_option maxHeartbeats 400000 in
theorem next_any (fb off : Nat) (lv : Value) (l : List (List Int)) (W w : World) (hne : l ≠ []) (hb : Below W.heap.size W w) (hs : Sls W lv l) (hc : w.cell? ⟨fb, off, none⟩ = some lv) (hf : w.frozen? ⟨fb, off, none⟩ = false) :
    Calls Tryd.prog 159 #[.pointer (some ⟨fb, off, none⟩)] w (NextPost fb off l W w) := by
  obtain ⟨la, lc, rfl, hlc, hlm⟩ := hs.shape
  have hlp : 0 < l.length := List.length_pos_iff.2 hne
  obtain ⟨b, o, rfl, hbl, u, hu, hsu⟩ := hs.at (k := 0) hlp
  have hu' : w.cell? ⟨b, o, none⟩ = some u := by rw [hb.cell (p := ⟨b, o, none⟩) hbl]; simpa using hu
  have hsd := hs.drop 1 (by omega)
  have HH := Lib.hid (show l.getD 0 [] = l.headD [] by cases l <;> rfl)
  rw [List.drop_one] at hsd
  rw [HH.out] at hsu
  have hlI : (0 : Int) < (l.length : Int) := by omega
  have hlI1 : (1 : Int) ≤ (l.length : Int) := by omega
  have hlcI : (1 : Int) ≤ (lc : Int) := by omega
  have HSD := Lib.hid hsd
  have HSU := Lib.hid hsu
  by_cases hc1 : lc = 1
  · rw [if_pos hc1] at HSD
    clear hsd hsu hs hu hne
    subst hc1
    obtain hl1 : l.length = 1 := by omega
    have HSD2 : Hid (Sls W (.slice (some ⟨b, o, none⟩) 0 0) l.tail) := by have := HSD.out; rw [hl1] at this; exact this
    rw [hl1] at *
    go_enter Tryd.func159, Tryd.ntmps159
    go_wp2
    go_ret
    exact ⟨_, _, rfl, HSU.out, HSD2.out, rfl⟩
  · rw [if_neg hc1, Option.map_some] at HSD
    clear hsd hsu hs hu hne
    go_enter Tryd.func159, Tryd.ntmps159
    go_wp2
    go_ret
    exact ⟨_, _, rfl, HSU.out, HSD.out, rfl⟩

theorem folder_notB {W : World} {size : Int} {iv ov : Value} {ins os : List (List Int)} (h1 : Sls W iv ins) (h2 : Sls W ov os) : ∀ c ∈ (#[Value.int .i64 size, iv, ov] : Array Value).toList, notB c := by
  obtain ⟨a, c, rfl, _, _⟩ := h1.shape
  obtain ⟨a2, c2, rfl, _, _⟩ := h2.shape
  intro u hu
  simp at hu
  rcases hu with rfl | rfl | rfl
  · intro n h; cases h
  · exact notB_slice _ _ _
  · exact notB_slice _ _ _

/-- What the folder's root does. -/
def FoldPost (size f t : Int) (a : Int) (n : Nat) (ins os : List (List Int)) (fb : Nat) (W w : World) (e : Ending) (w' : World) : Prop :=
  ∃ x iv ov, e = .returned x ∧ Sl w' x ((foldI size f t a n ins os).1.map (Value.int .u8)) ∧ Blk w' fb 170 #[.int .i64 size, iv, ov] ∧ Sls W iv (foldI size f t a n ins os).2.1 ∧ Sls W ov (foldI size f t a n ins os).2.2 ∧ w.grownBy w' (some fb)

set_option maxRecDepth 100000 in
set_option maxHeartbeats 1000000 in
theorem froot_any (size f t : Int) (fb : Nat) (W : World) (hfb : W.heap.size ≤ fb) (htW : Tabs W) : ∀ (m n : Nat), n ≤ m → 0 < n → ∀ (a : Int) (ins os : List (List Int)) (iv ov : Value) (w : World), (-1073741824 ≤ a ∧ a + n ≤ 1073741824) → enough f t a n size ins os →
    (∀ p ∈ ins, IsB p) → (∀ p ∈ os, IsB p) → Below W.heap.size W w → Blk w fb 170 #[.int .i64 size, iv, ov] → Sls W iv ins → Sls W ov os →
    Calls Tryd.prog 149 #[.pointer (some ⟨fb, 0, none⟩), .agg #[.int .i64 f, .int .i64 t], .int .i64 a, .int .i64 n] w (FoldPost size f t a n ins os fb W w) := by
  intro m
  induction m with
  | zero => intro n h1 h2; omega
  | succ m ih =>
    intro n hnm hn0 a ins os iv ov w ha he hBi hBo hbW kf hsi hso
    obtain ⟨ia, ic, rfl, hic, him⟩ := hsi.shape
    obtain ⟨oa, oc, rfl, hoc, hom⟩ := hso.shape
    have HM := Lib.hid (fun w1 (b : Bool) hb => holds_meets f t a n w1 b hb (by omega) (by omega))
    have hb0 : Below w.heap.size w (w.alloc (.cells #[.int .i64 f, .int .i64 t] 144)) := (Below.refl _ _).alloc (Nat.le_refl _) _
    have k0 := Blk.new w 144 #[.int .i64 f, .int .i64 t]
    have hbW1 := hbW.trans (hb0.mono hbW.size)
    have kf1 := kf.belowS hb0
    generalize hw1 : w.alloc (.cells #[.int .i64 f, .int .i64 t] 144) = w1 at *
    have p0 : w1.cell? ⟨w.heap.size, 0, none⟩ = some (.int .i64 f) := k0.cell 0
    have p1 : w1.cell? ⟨w.heap.size, 1, none⟩ = some (.int .i64 t) := k0.cell 1
    have hnI0 : (0 : Int) < (n : Int) := by omega
    by_cases hm : f < t ∧ f < a + n ∧ a < t
    · have HMM := Lib.hid (HM.out w1 true (decide_eq_true hm).symm)
      by_cases h2 : 2 ≤ n
      · have hk1 := half_lt n h2
        have hk2 := half_pos n
        obtain ⟨he1, he2⟩ := enough_two hm h2 he
        obtain ⟨bx, b1, b2⟩ := foldI_isB size f t (half n) (half n) (Nat.le_refl _) a ins os hBi hBo
        obtain ⟨by', _, _⟩ := foldI_isB size f t (n - half n) (n - half n) (Nat.le_refl _) (a + half n) _ _ b1 b2
        have HF := Lib.hid (foldI_two (size := size) (ins := ins) (os := os) hm h2)
        have HS := Lib.hid (fun w2 => split_any n w2 h2 (by omega))
        have HI1 := Lib.hid (fun w2 (h : Below W.heap.size W w2) k => ih (half n) (by omega) hk2 a ins os _ _ w2 (by omega) he1 hBi hBo h k hsi hso)
        have HI2 := Lib.hid (fun iv' ov' w2 (h : Below W.heap.size W w2) k h1 h2 => ih (n - half n) (by omega) (by omega) (a + half n) _ _ iv' ov' w2 (by omega) he2 b1 b2 h k h1 h2)
        rw [show ((n - half n : Nat) : Int) = (n : Int) - (half n : Int) by omega] at HI2
        have hn1I : ¬ (n : Int) = 1 := by omega
        have HBX := Lib.hid bx
        have HBY := Lib.hid by'
        have hkI : (half n : Int) ≤ 2147483648 := by omega
        generalize half n = k at *
        clear hm he he1 he2 bx by' b1 b2 ih hBi hBo hsi hso
        go_enter Tryd.func149, Tryd.ntmps149
        go_wp2_with fail
        refine HMM.out.mono ?_
        rintro e w2 ⟨rfl, hb2⟩
        have kf2 := kf1.belowS hb2
        have k02 := k0.belowS hb2
        have hbW2 := hbW1.trans (hb2.mono hbW1.size)
        clear p0 p1 kf1 k0 hbW1
        have p0 : w2.cell? ⟨w.heap.size, 0, none⟩ = some (.int .i64 f) := k02.cell 0
        have p1 : w2.cell? ⟨w.heap.size, 1, none⟩ = some (.int .i64 t) := k02.cell 1
        go_wp2_with fail
        refine (HS.out w2).mono ?_
        rintro e w3 ⟨rfl, rfl⟩
        go_wp2_with fail
        refine (HI1.out w2 hbW2 kf2).mono ?_
        rintro e w3 ⟨x1, iv', ov', rfl, hx1, kf3, hi3, ho3, hg3⟩
        have hbW3 := below_of_only hbW2 hg3 hfb hbW2.size
        have k03 : Blk w3 w.heap.size 144 #[.int .i64 f, .int .i64 t] := k02.grown hg3 (fun e => by injection e with e; exact Blk.ne_ k02 kf2 (by decide) e)
        have hgA := only_below (only_of_below hb0 (some fb)) hb2
        have hgA := World.grownBy.trans hgA hg3
        have HGA := Lib.hid hgA
        clear p0 p1 hg3 hgA hb2 hb0 k02 kf2 kf HI1
        have p0 : w3.cell? ⟨w.heap.size, 0, none⟩ = some (.int .i64 f) := k03.cell 0
        have p1 : w3.cell? ⟨w.heap.size, 1, none⟩ = some (.int .i64 t) := k03.cell 1
        have pf : w3.cell? ⟨fb, 0, none⟩ = some (.int .i64 size) := kf3.cell 0
        have HX1 := Lib.hid hx1
        clear hx1
        have hs1 : IntKind.i64.wrap (a + (k : Int)) = a + (k : Int) := by rw [IntKind.wrap_i64]; omega
        have hs2 : IntKind.i64.wrap ((n : Int) - (k : Int)) = (n : Int) - (k : Int) := by rw [IntKind.wrap_i64]; omega
        go_wp2
        go_region_held3 (fun w' => w'.cell? ⟨fb, 0, none⟩ = some (.int .i64 size) ∧ w'.cell? ⟨w.heap.size, 0, none⟩ = some (.int .i64 f) ∧ w'.cell? ⟨w.heap.size, 1, none⟩ = some (.int .i64 t))
          (first | exact ⟨pf, p0, p1⟩ | exact ⟨r0, r1, r2⟩ | exact ⟨s0, s1, s2⟩)
          (first | (go_at_call 146; refine (pair_any size x1 x2 _ _ w4 HBX.out HBY.out hx14 hx2 (htW.below hbW4)).mono ?_; rintro e w5 ⟨x3, rfl, hx3, hb5⟩; have s0 := (hb5.cell (p := ⟨fb, 0, none⟩) kf4.lt).trans r0; have s1 := (hb5.cell (p := ⟨w.heap.size, 0, none⟩) k04.lt).trans r1; have s2 := (hb5.cell (p := ⟨w.heap.size, 1, none⟩) k04.lt).trans r2) | (go_at_call 149; refine (HI2.out iv' ov' _ (by first | exact hbW3 | exact hbW3.drew) (by exact kf3) hi3 ho3).mono ?_; rintro e w4 ⟨x2, iv2, ov2, rfl, hx2, kf4, hi4, ho4, hg4⟩; have hg4 : w3.grownBy w4 (some fb) := ⟨hg4.os, hg4.tape, hg4.output, hg4.size, hg4.block⟩; have hbW4 := below_of_only hbW3 hg4 hfb hbW3.size; have k04 : Blk w4 w.heap.size 144 #[.int .i64 f, .int .i64 t] := k03.grown hg4 (fun e => by injection e with e; exact Blk.ne_ k03 kf3 (by decide) e); have r0 : w4.cell? ⟨fb, 0, none⟩ = some (.int .i64 size) := kf4.cell 0; have r1 : w4.cell? ⟨w.heap.size, 0, none⟩ = some (.int .i64 f) := k04.cell 0; have r2 : w4.cell? ⟨w.heap.size, 1, none⟩ = some (.int .i64 t) := k04.cell 1; have hx14 := HX1.out.keepB kf3 (folder_notB hi3 ho3) hg4))
        clear hs1 hs2
        have HG4 := Lib.hid (only_below (World.grownBy.trans HGA.out hg4) hb5)
        have kf5 := kf4.belowS hb5
        clear hg4 hb5 kf4 k04
        go_wp2
        go_ret
        exact ⟨_, _, _, rfl, by rw [HF.out]; exact hx3, kf5, by rw [HF.out]; exact hi4, by rw [HF.out]; exact ho4, HG4.out⟩
      · obtain rfl : n = 1 := by omega
        have HF := Lib.hid (foldI_in (size := size) (ins := ins) (os := os) hm)
        have hne := enough_in hm he
        clear he ih hm
        go_enter Tryd.func149, Tryd.ntmps149
        go_wp2_with fail
        refine HMM.out.mono ?_
        rintro e w2 ⟨rfl, hb2⟩
        have kf2 := kf1.belowS hb2
        have hbW2 := hbW1.trans (hb2.mono hbW1.size)
        have HG2 := Lib.hid (only_setCell (only_below (only_of_below hb0 (some fb)) hb2) (p := ⟨fb, 1, none⟩) (.inl rfl))
        have HN := Lib.hid (next_any fb 1 _ ins W w2 hne hbW2 hsi (kf2.cell 1) (kf2.frozen 1))
        clear kf1 k0 hb2 hb0 kf hne p0 p1
        go_wp2_with fail
        refine HN.out.mono ?_
        rintro e w3 ⟨x, lv', rfl, hx, hl', rfl⟩
        have hbW3 := hbW2.setCell (p := ⟨fb, 1, none⟩) hfb lv'
        go_wp2
        go_ret
        exact ⟨_, _, _, rfl, by rw [HF.out]; exact hx.below hbW3 (Nat.le_refl _), kf2.set_ 1 lv', by rw [HF.out]; exact hl', by rw [HF.out]; exact hso, HG2.out _⟩
    · have HMM := Lib.hid (HM.out w1 false (decide_eq_false hm).symm)
      have HF := Lib.hid (foldI_out (size := size) (ins := ins) (os := os) hm)
      have hne := enough_out hm he
      clear he ih hm
      go_enter Tryd.func149, Tryd.ntmps149
      go_wp2_with fail
      refine HMM.out.mono ?_
      rintro e w2 ⟨rfl, hb2⟩
      have kf2 := kf1.belowS hb2
      have hbW2 := hbW1.trans (hb2.mono hbW1.size)
      have HG2 := Lib.hid (only_setCell (only_below (only_of_below hb0 (some fb)) hb2) (p := ⟨fb, 2, none⟩) (.inl rfl))
      have HN := Lib.hid (next_any fb 2 _ os W w2 hne hbW2 hso (kf2.cell 2) (kf2.frozen 2))
      clear kf1 k0 hb2 hb0 kf hne p0 p1
      go_wp2_with fail
      refine HN.out.mono ?_
      rintro e w3 ⟨x, lv', rfl, hx, hl', rfl⟩
      have hbW3 := hbW2.setCell (p := ⟨fb, 2, none⟩) hfb lv'
      go_wp2
      go_ret
      exact ⟨_, _, _, rfl, by rw [HF.out]; exact hx.below hbW3 (Nat.le_refl _), kf2.set_ 2 lv', by rw [HF.out]; exact hsi, by rw [HF.out]; exact hl', HG2.out _⟩

end Go.Proofs.YtililoojjfcfgaaDoor

namespace Go.Proofs.YtililoojjfcfgaaDoor
open Go.RowKit
set_option linter.unusedVariables false

/-- The digests of a part that a span has. -/
def ovl (l : List (List Int)) (f t : Int) (a : Nat) : Nat → List (List Int)
  | 0 => []
  | n + 1 => ovl l f t a n ++ (if f ≤ a + n ∧ (a : Int) + n < t then [l.getD (a + n) []] else [])

theorem ovl_add (l : List (List Int)) (f t : Int) (a k : Nat) : ∀ m, ovl l f t a (k + m) = ovl l f t a k ++ ovl l f t (a + k) m
  | 0 => by simp [ovl]
  | m + 1 => by
    rw [← Nat.add_assoc]
    simp only [ovl]
    rw [ovl_add l f t a k m, List.append_assoc, ← Nat.add_assoc]
    congr 3
    rw [show ((a : Int) + ((k + m : Nat) : Int)) = ((a + k : Nat) : Int) + (m : Int) by omega]

theorem ovl_none (l : List (List Int)) (f t : Int) (a : Nat) : ∀ n : Nat, ¬ (f < t ∧ f < (a : Int) + n ∧ (a : Int) < t) → ovl l f t a n = []
  | 0, _ => rfl
  | n + 1, h => by
    simp only [ovl]
    rw [ovl_none l f t a n (by omega), if_neg (by omega)]; rfl

theorem ovl_all (l : List (List Int)) (f t : Nat) (hft : f ≤ t) : ∀ n, n ≤ l.length → ovl l f t 0 n = ((l.take n).take t).drop f
  | 0, _ => by simp [ovl]
  | n + 1, h => by
    simp only [ovl]
    rw [ovl_all l f t hft n (by omega), List.take_succ_eq_append_getElem (by omega)]
    have hg : l.getD (0 + n) [] = l[n] := by rw [Nat.zero_add, List.getD_eq_getElem?_getD, List.getElem?_eq_getElem (by omega)]; rfl
    rw [hg]
    have hln : (l.take n).length = n := by rw [List.length_take]; omega
    generalize l.take n = A at *
    generalize l[n] = x at *
    by_cases h1 : n < t
    · have e1 : A.take t = A := List.take_of_length_le (by omega)
      have e2 : (A ++ [x]).take t = A ++ [x] := List.take_of_length_le (by rw [List.length_append, hln]; simp; omega)
      rw [e1, e2]
      by_cases h2 : f ≤ n
      · rw [if_pos (by omega), List.drop_append_of_le_length (by omega)]
      · rw [if_neg (by omega), List.drop_eq_nil_of_le (by omega), List.drop_eq_nil_of_le (by rw [List.length_append, hln]; simp; omega)]; rfl
    · rw [if_neg (by omega), List.append_nil, List.take_append_of_le_length (by omega)]

theorem outs_split {f t a : Int} {n : Nat} (h2 : 2 ≤ n) (h : f < t ∧ f < a + n ∧ a < t) : outs f t a n = outs f t a (half n) ++ outs f t (a + half n) (n - half n) := by
  have k1 := half_lt n h2
  have k2 := half_pos n
  by_cases hh : f ≤ a ∧ a + n ≤ t
  · rw [outs_none (.inr hh), outs_none (.inr (by omega)), outs_none (.inr (by omega))]; rfl
  · exact (outs_two (by omega) h).2

theorem partsI_append (size : Int) (l : List (List Int)) (d e : List (Int × Nat)) : partsI size l (d ++ e) = partsI size l d ++ partsI size l e := by unfold partsI; rw [List.map_append]

theorem fold_parts (size : Int) (l : List (List Int)) (f t : Int) : ∀ (m n : Nat), n ≤ m → 0 < n → ∀ (a : Nat) (ri ro : List (List Int)), a + n ≤ l.length →
    enough f t a n size (ovl l f t a n ++ ri) (partsI size l (outs f t a n) ++ ro) ∧ foldI size f t a n (ovl l f t a n ++ ri) (partsI size l (outs f t a n) ++ ro) = (rootI size ((l.drop a).take n), ri, ro) := by
  intro m
  induction m with
  | zero => intro n h1 h2; omega
  | succ m ih =>
    intro n hnm hn a ri ro hl
    by_cases h : f < t ∧ f < (a : Int) + n ∧ (a : Int) < t
    · by_cases h2 : 2 ≤ n
      · have k1 := half_lt n h2
        have k2 := half_pos n
        have hs : (a : Int) + (half n : Int) = ((a + half n : Nat) : Int) := by omega
        obtain ⟨e1, f1⟩ := ih (half n) (by omega) k2 a (ovl l f t (a + half n) (n - half n) ++ ri) (partsI size l (outs f t ((a + half n : Nat) : Int) (n - half n)) ++ ro) (by omega)
        obtain ⟨e2, f2⟩ := ih (n - half n) (by omega) (by omega) (a + half n) ri ro (by omega)
        have ho : ovl l f t a n = ovl l f t a (half n) ++ ovl l f t (a + half n) (n - half n) := by
          rw [← ovl_add, show half n + (n - half n) = n by omega]
        have hll : ((l.drop a).take n).length = n := by rw [List.length_take, List.length_drop]; omega
        have hr : rootI size ((l.drop a).take n) = hashT size 4 [rootI size ((l.drop a).take (half n)), rootI size ((l.drop (a + half n)).take (n - half n))] := by
          rw [rootI_two size _ (by rw [hll]; exact h2), hll, List.take_take, Nat.min_eq_left (by omega), List.drop_take, List.drop_drop]
        rw [ho, outs_split h2 h, partsI_append, hs, List.append_assoc, List.append_assoc]
        refine ⟨?_, ?_⟩
        · rw [enough, if_neg (fun h' => h' h), dif_pos h2, f1, hs]
          exact ⟨e1, e2⟩
        · rw [foldI_two h h2, f1, hs]
          simp only [f2]
          rw [hr]
      · obtain rfl : n = 1 := by omega
        have ho : ovl l f t a 1 = [l.getD a []] := by
          simp only [ovl]
          rw [if_pos (by omega)]; rfl
        have hl1 : (l.drop a).take 1 = [l.getD a []] := by
          rw [List.drop_eq_getElem_cons (by omega), List.getD_eq_getElem?_getD, List.getElem?_eq_getElem (by omega)]; rfl
        rw [ho, outs_none (.inr (by omega)), hl1, rootI_one]
        refine ⟨?_, ?_⟩
        · rw [enough, if_neg (fun h' => h' h), dif_neg (by omega)]; simp
        · rw [foldI_in h]; simp [partsI]
    · rw [ovl_none l f t a n h, outs_one (by omega) h]
      have hp : partsI size l [((a : Int), n)] = [rootI size ((l.drop a).take n)] := by simp [partsI]
      rw [hp]
      refine ⟨?_, ?_⟩
      · rw [enough, if_pos h]; simp
      · rw [foldI_out h]; simp

theorem foldI_len (size f t : Int) : ∀ (m n : Nat), n ≤ m → ∀ (a : Int) (ins os : List (List Int)), (∀ p ∈ ins, p.length ≤ 32) → (∀ p ∈ os, p.length ≤ 32) → (foldI size f t a n ins os).1.length ≤ 32 := by
  intro m
  cases m with
  | zero =>
    intro n hn a ins os hi ho
    obtain rfl : n = 0 := by omega
    rw [foldI]
    split
    · exact headD_mem (P := fun p => p.length ≤ 32) ho (by simp)
    · rw [dif_neg (by omega)]
      exact headD_mem (P := fun p => p.length ≤ 32) hi (by simp)
  | succ m =>
    intro n hn a ins os hi ho
    by_cases h : f < t ∧ f < a + n ∧ a < t
    · by_cases h2 : 2 ≤ n
      · rw [foldI_two h h2]; exact hashT_len _ _ _
      · rw [foldI, if_neg (fun h' => h' h), dif_neg h2]
        exact headD_mem (P := fun p => p.length ≤ 32) hi (by simp)
    · rw [foldI_out h]
      exact headD_mem (P := fun p => p.length ≤ 32) ho (by simp)

end Go.Proofs.YtililoojjfcfgaaDoor

namespace Go.Proofs.YtililoojjfcfgaaDoor
open Go.RowKit
set_option linter.unusedVariables false

def clampI (x : Int) (m : Nat) : Int := max 0 (min x m)

/-- Where two spans are cut alike by a part's borders, the parts are the same. -/
theorem outs_clamp (f t f' t' lo hi : Int) (hf : f' = max lo (min f hi)) (ht : t' = max f' (max lo (min t hi))) : ∀ (m n : Nat), n ≤ m → ∀ a : Int, lo ≤ a → a + n ≤ hi → outs f t a n = outs f' t' a n := by
  intro m
  induction m with
  | zero =>
    intro n hn a h1 h2
    obtain rfl : n = 0 := by omega
    rw [outs_none (.inl rfl), outs_none (.inl rfl)]
  | succ m ih =>
    intro n hn a h1 h2
    by_cases h0 : n = 0
    · subst h0; rw [outs_none (.inl rfl), outs_none (.inl rfl)]
    · by_cases hh : f ≤ a ∧ a + n ≤ t
      · rw [outs_none (.inr hh), outs_none (.inr (by omega))]
      · by_cases hm : f < t ∧ f < a + n ∧ a < t
        · obtain ⟨g2, e⟩ := outs_two (by omega) hm
          obtain ⟨_, e'⟩ := outs_two (f := f') (t := t') (a := a) (n := n) (by omega) (by omega)
          have k1 := half_lt n g2
          have k2 := half_pos n
          rw [e, e', ih (half n) (by omega) a h1 (by omega), ih (n - half n) (by omega) (a + half n) (by omega) (by omega)]
        · rw [outs_one (by omega) hm, outs_one (by omega) (by omega)]

theorem outs_shift (f t b : Int) : ∀ (m n : Nat), n ≤ m → ∀ a : Int, outs f t (a + b) n = (outs (f - b) (t - b) a n).map fun p => (p.1 + b, p.2) := by
  intro m
  induction m with
  | zero =>
    intro n hn a
    obtain rfl : n = 0 := by omega
    rw [outs_none (.inl rfl), outs_none (.inl rfl)]; rfl
  | succ m ih =>
    intro n hn a
    by_cases h0 : n = 0 ∨ (f ≤ a + b ∧ a + b + n ≤ t)
    · rw [outs_none h0, outs_none (by omega)]; rfl
    · by_cases hm : f < t ∧ f < a + b + n ∧ a + b < t
      · obtain ⟨g2, e⟩ := outs_two h0 hm
        obtain ⟨_, e'⟩ := outs_two (f := f - b) (t := t - b) (a := a) (n := n) (by omega) (by omega)
        have k1 := half_lt n g2
        have k2 := half_pos n
        rw [e, e', List.map_append, ih (half n) (by omega) a, ← ih (n - half n) (by omega) (a + half n), show a + (half n : Int) + b = a + b + half n by omega]
      · rw [outs_one h0 hm, outs_one (by omega) (by omega)]; rfl

theorem outs_in (f t : Int) : ∀ (m n : Nat), n ≤ m → ∀ a : Int, 0 ≤ a → ∀ p ∈ outs f t a n, a ≤ p.1 ∧ p.1 + p.2 ≤ a + n := by
  intro m
  induction m with
  | zero =>
    intro n hn a h p hp
    obtain rfl : n = 0 := by omega
    rw [outs_none (.inl rfl)] at hp; cases hp
  | succ m ih =>
    intro n hn a h p hp
    by_cases h0 : n = 0 ∨ (f ≤ a ∧ a + n ≤ t)
    · rw [outs_none h0] at hp; cases hp
    · by_cases hm : f < t ∧ f < a + n ∧ a < t
      · obtain ⟨g2, e⟩ := outs_two h0 hm
        have k1 := half_lt n g2
        have k2 := half_pos n
        rw [e] at hp
        rcases List.mem_append.1 hp with hp | hp
        · have := ih (half n) (by omega) a h p hp; omega
        · have := ih (n - half n) (by omega) (a + half n) (by omega) p hp; omega
      · rw [outs_one h0 hm] at hp
        obtain rfl := List.mem_singleton.1 hp
        exact ⟨Int.le_refl _, Int.le_refl _⟩

/-- What shows a range of these digests (the range lies in them). -/
def rngI (size : Int) (l : List (List Int)) (f t : Int) : List (List Int) := partsI size l (outs f t 0 l.length)

theorem partsI_take (size : Int) (l : List (List Int)) (k : Nat) (d : List (Int × Nat)) (h : ∀ p ∈ d, 0 ≤ p.1 ∧ p.1 + p.2 ≤ k) : partsI size (l.take k) d = partsI size l d := by
  unfold partsI
  refine List.map_congr_left fun p hp => ?_
  obtain ⟨h1, h2⟩ := h p hp
  rw [List.drop_take, List.take_take, Nat.min_eq_left (by omega)]
theorem partsI_drop (size : Int) (l : List (List Int)) (k : Nat) (d : List (Int × Nat)) (h : ∀ p ∈ d, 0 ≤ p.1) : partsI size l (d.map fun p => (p.1 + k, p.2)) = partsI size (l.drop k) d := by
  unfold partsI
  rw [List.map_map]
  refine List.map_congr_left fun p hp => ?_
  have h1 := h p hp
  show rootI size ((l.drop (p.1 + k).toNat).take p.2) = _
  rw [List.drop_drop, show (p.1 + (k : Int)).toNat = k + p.1.toNat by omega]

theorem rngI_none (size : Int) (l : List (List Int)) (f t : Int) (h : l.length = 0 ∨ (f ≤ 0 ∧ (l.length : Int) ≤ t)) : rngI size l f t = [] := by
  unfold rngI; rw [outs_none (h.imp id (by omega))]; rfl
theorem rngI_one (size : Int) (l : List (List Int)) (f t : Int) (h0 : 0 < l.length) (h : ¬ (f ≤ 0 ∧ (l.length : Int) ≤ t)) (hm : ¬ (f < t ∧ f < l.length ∧ 0 < t)) : rngI size l f t = [rootI size l] := by
  unfold rngI
  rw [outs_one (by omega) (by omega)]
  simp [partsI]
theorem rngI_two (size : Int) (l : List (List Int)) (f t : Int) (h : ¬ (f ≤ 0 ∧ (l.length : Int) ≤ t)) (hm : f < t ∧ f < l.length ∧ 0 < t) :
    2 ≤ l.length ∧ rngI size l f t = rngI size (l.take (half l.length)) (clampI f (half l.length)) (max (clampI f (half l.length)) (clampI t (half l.length))) ++
      rngI size (l.drop (half l.length)) (clampI (f - half l.length) (l.length - half l.length)) (max (clampI (f - half l.length) (l.length - half l.length)) (clampI (t - half l.length) (l.length - half l.length))) := by
  obtain ⟨g2, e⟩ := outs_two (f := f) (t := t) (a := 0) (n := l.length) (by omega) (by omega)
  refine ⟨g2, ?_⟩
  have k1 := half_lt l.length g2
  have k2 := half_pos l.length
  unfold rngI
  rw [e, partsI_append]
  have hl1 : (l.take (half l.length)).length = half l.length := by rw [List.length_take]; omega
  have hl2 : (l.drop (half l.length)).length = l.length - half l.length := by rw [List.length_drop]
  rw [hl1, hl2]
  generalize half l.length = k at *
  congr 1
  · rw [partsI_take size l k _ (fun p hp => by have := outs_in _ _ k k (Nat.le_refl _) 0 (Int.le_refl _) p hp; omega)]
    rw [outs_clamp f t (clampI f k) (max (clampI f k) (clampI t k)) 0 k (by unfold clampI; omega) (by unfold clampI; omega) k k (Nat.le_refl _) 0 (Int.le_refl _) (by omega)]
  · rw [outs_shift f t k (l.length - k) (l.length - k) (Nat.le_refl _) 0]
    rw [partsI_drop size l k _ (fun p hp => by have := outs_in _ _ _ _ (Nat.le_refl _) 0 (Int.le_refl _) p hp; omega)]
    rw [outs_clamp (f - k) (t - k) (clampI (f - k) (l.length - k)) (max (clampI (f - k) (l.length - k)) (clampI (t - k) (l.length - k))) 0 ((l.length - k : Nat) : Int) (by unfold clampI; omega) (by unfold clampI; omega) (l.length - k) (l.length - k) (Nat.le_refl _) 0 (Int.le_refl _) (by omega)]

end Go.Proofs.YtililoojjfcfgaaDoor
