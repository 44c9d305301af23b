
/- A slice of texts; the walks of texts.Text's search for a long part. -/
import Derived.Test.YtgfkejecigefbaaDoorApp
import Derived.Test.YtgfkejecigefbaaDoorBytes
namespace Go.Proofs.YtgfkejecigefbaaDoor
open Go.RowKit
set_option linter.unusedVariables false

/-- The value v is a slice of byte slices that reads as pss. -/
def Sls (w : World) (v : Value) (pss : List (List Int)) : Prop :=
  ∃ vs : List Value, Sl w v vs ∧ vs.length = pss.length ∧ ∀ (i : Nat) (u : Value) (bs : List Int), vs[i]? = some u → pss[i]? = some bs → Sl w u (bs.map (Value.int .u8))

theorem Sls.below {w w' : World} {v : Value} {pss : List (List Int)} (h : Sls w v pss) {B : Nat} (hb : Below B w w') (hB : w.heap.size ≤ B) : Sls w' v pss := by
  obtain ⟨vs, h1, h2, h3⟩ := h
  exact ⟨vs, h1.below hb hB, h2, fun i u bs hu hp => (h3 i u bs hu hp).below hb hB⟩

theorem Sls.shape {w : World} {v : Value} {pss : List (List Int)} (h : Sls w v pss) : ∃ a cap, v = .slice a pss.length cap ∧ pss.length ≤ cap ∧ cap ≤ 9223372036854775807 := by
  obtain ⟨vs, h1, h2, h3⟩ := h
  obtain ⟨a, cap, rfl, h4, h5⟩ := h1.shape
  rw [h2] at h4 ⊢
  exact ⟨a, cap, rfl, h4, h5⟩

/-- The k-th text of a slice of texts: where it lies, and that it reads. -/
theorem Sls.at {w : World} {a : Option Addr} {n cap : Nat} {pss : List (List Int)} (h : Sls w (.slice a n cap) pss) {k : Nat} (hk : k < pss.length) :
    ∃ b off, a = some ⟨b, off, none⟩ ∧ b < w.heap.size ∧ ∃ u, w.cell? ⟨b, off + k, none⟩ = some u ∧ Sl w u ((pss.getD k []).map (Value.int .u8)) := by
  obtain ⟨vs, h1, h2, h3⟩ := h
  obtain ⟨b, off, rfl, hb, hc⟩ := h1.addr (by omega)
  refine ⟨b, off, rfl, hb, vs[k], hc k _ (List.getElem?_eq_getElem (by omega)), h3 k _ _ (List.getElem?_eq_getElem (by omega)) ?_⟩
  rw [List.getD_eq_getElem?_getD, List.getElem?_eq_getElem hk]; rfl

theorem Sls.take {w : World} {a : Option Addr} {n cap : Nat} {pss : List (List Int)} (h : Sls w (.slice a n cap) pss) (m : Nat) (hm : m ≤ pss.length) : Sls w (.slice a m cap) (pss.take m) := by
  obtain ⟨vs, h1, h2, h3⟩ := h
  refine ⟨vs.take m, h1.take m (by omega), by simp [h2], fun i u bs hu hp => ?_⟩
  rw [List.getElem?_take] at hu hp
  split at hu
  · rename_i hi
    rw [if_pos hi] at hp
    exact h3 i u bs hu hp
  · cases hu


theorem long_any (v : Value) (bs : List Int) (w : World) (hs : Sl w v (bs.map (Value.int .u8))) :
    Calls Tryd.prog 121 #[v] w fun e w' => e = .returned (.bool (decide (65535 < bs.length))) ∧ w = w' := by
  obtain ⟨a, cap, rfl, hc, hm⟩ := hs.shape
  rw [List.length_map] at *
  go_enter Tryd.func121, Tryd.ntmps121
  go_wp2
  go_ret
  exact ⟨ret_bool (by rw [decide_eq_decide]; omega), rfl⟩

set_option maxHeartbeats 1000000 in
theorem indexLong_any (v : Value) (pss : List (List Int)) (w : World) (h : Sls w v pss) :
    Calls Tryd.prog 98 #[v, .func (.func 121) #[] #[]] w fun e w' => ∃ r : Int, e = .returned (.int .i64 r) ∧ (0 ≤ r ↔ ∃ p ∈ pss, 65535 < p.length) ∧ w = w' := by
  obtain ⟨a, cap, rfl, hc, hm⟩ := h.shape
  go_enter Tryd.func98, Tryd.ntmps98
  go_wp2
  go_loopw [8] (fun i wr => ∃ k : Nat, k ≤ pss.length ∧ i = .int .i64 k ∧ Hid (∀ j, j < k → ¬ 65535 < (pss.getD j []).length) ∧ w = wr) (fun i _ => pss.length - (intOf i).toNat)
  case atStart => exact ⟨0, by omega, rfl, fun j hj => absurd hj (by omega), rfl⟩
  case round =>
    obtain ⟨k, hk, rfl, hall, rfl⟩ := hrel
    by_cases hlt : k < pss.length
    · obtain ⟨b, off, rfl, hb, u, hu, hs⟩ := h.at hlt
      have hkI : (k : Int) < (pss.length : Int) := by omega
      go_wp2_with fail
      refine (long_any u _ w hs).mono ?_
      by_cases hl : 65535 < (pss.getD k []).length
      · rw [show decide (65535 < (pss.getD k []).length) = true by simpa using hl]
        rintro e w1 ⟨rfl, rfl⟩
        have HL := Lib.hid hl
        clear hl hs hu
        go_wp2
        go_ret
        refine ⟨_, rfl, ⟨fun _ => ⟨pss[k], List.getElem_mem hlt, ?_⟩, fun _ => by omega⟩, rfl⟩
        have := HL.out
        rwa [List.getD_eq_getElem?_getD, List.getElem?_eq_getElem hlt] at this
      · rw [show decide (65535 < (pss.getD k []).length) = false by simpa using hl]
        rintro e w1 ⟨rfl, rfl⟩
        have HL := Lib.hid hl
        clear hl hs hu
        go_wp2
        go_roundw
        case rel =>
          refine ⟨k + 1, by omega, by go_num, fun j hj => ?_, by first | rfl | trivial⟩
          rcases Nat.lt_or_ge j k with h | h
          · exact hall.out j h
          · obtain rfl : j = k := by omega
            exact HL.out
        case measure => simp [intOf]; omega
    · have hkI : ¬ (k : Int) < (pss.length : Int) := by omega
      go_wp2
      go_ret
      refine ⟨_, rfl, ⟨fun h0 => absurd h0 (by decide), fun ⟨p, hp, hl⟩ => ?_⟩, rfl⟩
      obtain ⟨j, hj, rfl⟩ := List.mem_iff_getElem.1 hp
      have := hall.out j (by omega)
      rw [List.getD_eq_getElem?_getD, List.getElem?_eq_getElem hj] at this
      exact absurd hl this

theorem containsLong_any (v : Value) (pss : List (List Int)) (w : World) (h : Sls w v pss) :
    Calls Tryd.prog 76 #[v, .func (.func 121) #[] #[]] w fun e w' => e = .returned (.bool (decide (∃ p ∈ pss, 65535 < p.length))) ∧ w = w' := by
  have hi := Lib.hid (indexLong_any v pss w h)
  go_enter Tryd.func76, Tryd.ntmps76
  go_wp2_with fail
  refine hi.out.mono ?_
  rintro e w1 ⟨r, rfl, hr, rfl⟩
  have HR := Lib.hid hr
  clear hr
  go_wp2
  go_ret
  exact ⟨ret_bool (by rw [decide_eq_decide]; exact HR.out), rfl⟩

/-- The text of a tag and parts. -/
def textI (tag : Int) (pss : List (List Int)) : List Int := tag :: pss.flatMap fun p => (p.length : Int) / 256 % 256 :: (p.length : Int) % 256 :: p
def codeT (tag : Int) (pss : List (List Int)) : Int := if tag < 0 ∨ 255 < tag then 1 else if ∃ p ∈ pss, 65535 < p.length then 4 else 0
def contT (tag : Int) (pss : List (List Int)) : List Int := if tag < 0 ∨ 255 < tag then [] else if ∃ p ∈ pss, 65535 < p.length then [] else textI tag pss

theorem flat_len (pss : List (List Int)) (h : ∀ p ∈ pss, p.length ≤ 65535) : (pss.flatMap fun p => (p.length : Int) / 256 % 256 :: (p.length : Int) % 256 :: p).length ≤ 65537 * pss.length := by
  induction pss with
  | nil => simp
  | cons p ps ih =>
    have h1 := h p (by simp)
    have h2 := ih (fun q hq => h q (by simp [hq]))
    simp only [List.flatMap_cons, List.length_append, List.length_cons] at *
    omega

theorem textI_snoc (tag : Int) (pss : List (List Int)) (k : Nat) (hk : k < pss.length) :
    textI tag (pss.take (k + 1)) = textI tag (pss.take k) ++ [((pss.getD k []).length : Int) / 256 % 256, ((pss.getD k []).length : Int) % 256] ++ pss.getD k [] := by
  have e : pss.getD k [] = pss[k] := by rw [List.getD_eq_getElem?_getD, List.getElem?_eq_getElem hk]; rfl
  rw [e, List.take_succ_eq_append_getElem hk]
  unfold textI
  rw [List.flatMap_append]
  simp only [List.flatMap_cons, List.flatMap_nil, List.append_nil, List.cons_append, List.append_assoc, List.nil_append]

end Go.Proofs.YtgfkejecigefbaaDoor
