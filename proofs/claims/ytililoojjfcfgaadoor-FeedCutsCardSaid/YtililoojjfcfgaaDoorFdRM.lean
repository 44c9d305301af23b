/- The reference's Cuts. Conditions: the counts read as a slice of numbers, a million of them at most. -/
import Derived.Test.YtililoojjfcfgaaDoorFcE
import Derived.Deep.Cut
namespace Go.Proofs.YtililoojjfcfgaaDoor
open Go.RowKit
set_option linter.unusedVariables false

theorem cutsI_small (xs : List Int) (index limit : Int) (h : limit < 1) : cutsI xs index limit = [] := by
  unfold cutsI
  split
  · rfl
  · cases xs with
    | nil => rfl
    | cons a r => unfold cutsFrom; rw [if_pos (.inr h)]

set_option maxRecDepth 100000 in
set_option maxHeartbeats 2000000 in
theorem refCuts_any (a : Option Addr) (cp : Nat) (xs : List Int) (index limit : Int) (hx64 : ∀ x ∈ xs, -9223372036854775808 ≤ x ∧ x ≤ 9223372036854775807) (hi64 : -9223372036854775808 ≤ index ∧ index ≤ 9223372036854775807) (hl64 : -9223372036854775808 ≤ limit ∧ limit ≤ 9223372036854775807)
    (hlen : xs.length ≤ 1000000) (w : World) (hs : Sl w (.slice a xs.length cp) (xs.map (Value.int .i64))) :
    Calls Tryd.prog 24 #[.slice a xs.length cp, .int .i64 index, .int .i64 limit] w fun e w' => ∃ v, e = .returned v ∧ w'.ownsRow w.heap.size 43 2 v (cutsI xs index limit).length (flatC (cutsI xs index limit)) ∧ Below w.heap.size w w' := by
  obtain ⟨i0, hi, hz0, hz1, hz2⟩ := info_parts infoC
  have hcp : xs.length ≤ cp ∧ cp ≤ 9223372036854775807 := by
    obtain ⟨_, h1, h2⟩ := hs.len
    rw [List.length_map] at *
    exact ⟨h1, h2⟩
  have out0 : cutsI xs index limit = [] → w.ownsRow w.heap.size 43 2 (.slice none 0 0) (cutsI xs index limit).length (flatC (cutsI xs index limit)) := fun e => by rw [e]; exact World.ownsRow_nil _ _ _ _
  by_cases hL : limit < 1
  · have HO := Lib.hid (out0 (cutsI_small xs index limit hL))
    clear out0 hs
    go_enter Tryd.func24, Tryd.ntmps24
    go_wp2
    go_ret
    exact ⟨_, rfl, HO.out, Below.refl _ _⟩
  by_cases hA : xs.length = 0
  · have hAI : ((xs.length : Int) == 0) = true := by simp [hA]
    have HO := Lib.hid (out0 (by unfold cutsI; rw [if_pos (.inl (List.length_eq_zero_iff.1 hA))]))
    clear out0 hs
    go_enter Tryd.func24, Tryd.ntmps24
    go_wp2
    go_ret
    exact ⟨_, rfl, HO.out, Below.refl _ _⟩
  have hAI : ((xs.length : Int) == 0) = false := beq_eq_false_iff_ne.2 (by omega)
  by_cases hB : index < 0
  · have HO := Lib.hid (out0 (by unfold cutsI; rw [if_pos (.inr (.inl hB))]))
    clear out0 hs
    go_enter Tryd.func24, Tryd.ntmps24
    go_wp2
    go_ret
    exact ⟨_, rfl, HO.out, Below.refl _ _⟩
  obtain ⟨xb, xo, rfl, hxlt, hcell⟩ := hs.ints (k := 0) (by omega)
  have cx0 := hcell 0 (by omega)
  rw [Nat.add_zero] at cx0
  by_cases hC : xs.getD 0 0 ≤ index
  · have HO := Lib.hid (out0 (by unfold cutsI; rw [if_pos (.inr (.inr hC))]))
    generalize xs.getD 0 0 = x0 at *
    clear out0 hs hcell
    go_enter Tryd.func24, Tryd.ntmps24
    go_wp2
    go_ret
    exact ⟨_, rfl, HO.out, Below.refl _ _⟩
  have HALL := Lib.hid (show cutsI xs index limit = cutsFrom 0 index limit xs by unfold cutsI; rw [if_neg (by simp only [not_or]; exact ⟨fun e => hA (by rw [e]; rfl), hB, hC⟩)])
  have HLL := Lib.hid (show (cutsI xs index limit).length ≤ 1000000 by have := cutsI_length xs index limit; omega)
  generalize hall : cutsI xs index limit = all at *
  have HAE := Lib.hid hall
  have HX := Lib.hid hcell
  have HC := Lib.hid hC
  have hcm : ¬ xs.getD 0 0 ≤ index := hC
  generalize hx0 : xs.getD 0 0 = x0 at cx0 hcm
  have HX0 := Lib.hid hx0
  clear hs hcell hC hx0 out0 hall
  go_enter Tryd.func24, Tryd.ntmps24
  go_wp2
  go_loopw [1, 2, 7, 31] (fun iv lv o kv wr => ∃ (k : Nat) (pre : List CutP) (ix lm : Int) (ov : Value), ov = o ∧ k ≤ xs.length ∧ kv = .int .i64 k ∧ iv = .int .i64 ix ∧ lv = .int .i64 lm ∧ Hid (all = pre ++ cutsFrom k ix lm (xs.drop k)) ∧ wr.ownsRow w.heap.size 43 2 ov pre.length (flatC pre) ∧ 0 ≤ ix ∧ Hid (∀ n, xs[k]? = some n → 1 ≤ n → ix < n) ∧ -9223372036854775808 ≤ lm ∧ lm ≤ 9223372036854775807 ∧ Below w.heap.size w wr) (fun _ _ _ kv _ => xs.length - (intOf kv).toNat)
  case atStart =>
    refine ⟨0, [], index, limit, _, rfl, by omega, rfl, rfl, rfl, HALL, World.ownsRow_nil _ _ _ _, by omega, ?_, hl64.1, hl64.2, Below.refl _ _⟩
    intro n hn h1
    have := HC.out
    rw [List.getD_eq_getElem?_getD, hn] at this
    simpa using this
  case round =>
    obtain ⟨k, pre, ix, lm, ov, rfl, hk, rfl, rfl, rfl, HA, hO, h0ix, HIX, hl1, hl2, hbr⟩ := hrel
    have HO := Lib.hid hO
    have HB := Lib.hid hbr
    have hsz := hbr.size
    obtain ⟨va, vc, rfl⟩ : ∃ a c, ov = Value.slice a pre.length c := by
      rcases hO.2 with ⟨rfl, e⟩ | ⟨g, c, cur, e, _⟩
      · rw [e]; exact ⟨_, _, rfl⟩
      · exact ⟨_, _, e⟩
    clear cx0 hcm hO hbr
    by_cases hlt : k < xs.length
    · obtain ⟨m, hm⟩ : ∃ m, xs[k]? = some m := ⟨xs[k], List.getElem?_eq_getElem hlt⟩
      have hmb := hx64 m (List.mem_of_getElem? hm)
      have cm : wr.cell? ⟨xb, xo + k, none⟩ = some (.int .i64 m) := by
        have := HX.out k hlt
        rw [List.getD_eq_getElem?_getD, hm] at this
        exact (HB.out.cell (p := ⟨xb, xo + k, none⟩) hxlt).trans this
      have hdrop : xs.drop k = m :: xs.drop (k + 1) := by
        rw [List.drop_eq_getElem_cons hlt]
        rw [List.getElem?_eq_getElem hlt] at hm
        cases hm; rfl
      have hkI : (k : Int) < (xs.length : Int) := by omega
      have HLT := Lib.hid hlt
      by_cases h1 : m < 1
      · have e : cutsFrom k ix lm (xs.drop k) = [] := by rw [hdrop, cutsFrom, if_pos (.inl h1)]
        have HE := Lib.hid (show all = pre by have := HA.out; rwa [e, List.append_nil] at this)
        clear e hdrop hm HA
        go_wp2
        go_ret
        exact ⟨_, rfl, by rw [HE.out]; exact HO.out, HB.out⟩
      by_cases h2 : lm < 1
      · have e : cutsFrom k ix lm (xs.drop k) = [] := by rw [hdrop, cutsFrom, if_pos (.inr h2)]
        have HE := Lib.hid (show all = pre by have := HA.out; rwa [e, List.append_nil] at this)
        clear e hdrop hm HA
        go_wp2
        go_ret
        exact ⟨_, rfl, by rw [HE.out]; exact HO.out, HB.out⟩
      have hix := HIX.out m hm (by omega)
      have hst : cutsFrom k ix lm (m :: xs.drop (k + 1)) = ⟨k, ix, cutTo ix lm m⟩ :: cutsFrom (k + 1) 0 (lm - (cutTo ix lm m - ix)) (xs.drop (k + 1)) := by rw [cutsFrom, if_neg (by omega)]
      rw [← hdrop] at hst
      have HST := Lib.hid hst
      have HPL := Lib.hid (show pre.length + 1 ≤ 1000000 by
        have h1 := HLL.out
        rw [HA.out, hst] at h1
        simp at h1; omega)
      clear hdrop hm hst
      by_cases h3 : lm < m - ix
      · have TO := Lib.hid (show cutTo ix lm m = ix + lm by unfold cutTo; rw [if_pos h3])
        have HCN := Lib.hid (show ∀ j u, [Value.int .i64 ix, Value.int .i64 (ix + lm)][j]? = some u → ((wr.alloc (.cells #[.int .i64 ix, .int .i64 (ix + lm)] 43)).alloc (.cells #[.int .i64 ix, .int .i64 (ix + lm)] 43)).cell? ((⟨wr.heap.size + 1, 0, none⟩ : Addr).add j) = some u from by
          have := cell_two_new (wr.alloc (.cells #[.int .i64 ix, .int .i64 (ix + lm)] 43)) (.int .i64 ix) (.int .i64 (ix + lm)) 43
          rw [World.size_alloc] at this
          exact this)
        have HBA := Lib.hid (show Below wr.heap.size wr ((wr.alloc (.cells #[.int .i64 ix, .int .i64 (ix + lm)] 43)).alloc (.cells #[.int .i64 ix, .int .i64 (ix + lm)] 43)) from ((Below.refl _ _).alloc (Nat.le_refl _) _).alloc (by simp) _)
        go_wp2_with (at_builtin; refine wpList_append_own _ rfl _ _ 41 rfl w.heap.size 43 i0 (.agg #[.int .i64 0, .int .i64 0]) 2 16 Tryd.underlying41 hi hz0 hz1 hz2 rfl (by decide) (.slice va pre.length vc) pre.length (flatC pre) rfl (ownsRow_below HO.out HBA.out (Nat.le_refl _)) ⟨wr.heap.size + 1, 0, none⟩ 1 1 [.int .i64 ix, .int .i64 (ix + lm)] rfl rfl HCN.out (by simp [Value.oneCell']) (by have := HPL.out; unfold maxLen; omega) (by have := HPL.out; omega) (by have := HBA.out.size; omega) ?_)
        intro v2 w2 hown2 hg2 _
        have hb2 : Below w.heap.size w w2 := (HB.out.trans (HBA.out.mono hsz)).grown hg2 (by have := HBA.out.size; omega) (fun q hq => by have := (HO.out.lt q hq).1; omega)
        obtain ⟨g2, c2, rfl⟩ : ∃ g cap, v2 = .slice (some ⟨g, 0, none⟩) (pre.length + 1) cap := by
          rcases hown2.2 with ⟨_, h0⟩ | ⟨g, cap, _, rfl, _⟩
          · omega
          · exact ⟨g, cap, rfl⟩
        have HO2 := Lib.hid (show w2.ownsRow w.heap.size 43 2 (.slice (some ⟨g2, 0, none⟩) (pre.length + 1) c2) (pre ++ [⟨k, ix, ix + lm⟩] : List CutP).length (flatC (pre ++ [⟨k, ix, ix + lm⟩])) by rw [flatC_snoc, List.length_append]; exact hown2)
        have HB2 := Lib.hid hb2
        have HA2 := Lib.hid (show all = (pre ++ [⟨k, ix, ix + lm⟩]) ++ cutsFrom (k + 1) 0 (lm - (ix + lm - ix)) (xs.drop (k + 1)) by rw [HA.out, HST.out, TO.out]; simp)
        have HLM := Lib.hid (show -9223372036854775808 ≤ lm - (ix + lm - ix) ∧ lm - (ix + lm - ix) ≤ 9223372036854775807 by omega)
        clear hown2 hg2 hb2
        go_wp2
        go_roundw
        case rel => exact ⟨k + 1, _, 0, _, _, rfl, HLT.out, by go_num, rfl, rfl, HA2, HO2.out, Int.le_refl _, Lib.hid (fun y _ hy1 => by omega), HLM.out.1, HLM.out.2, HB2.out⟩
        case measure => simp [intOf]; have := HLT.out; omega
      · have hcan : ix + (m - ix) = m := by omega
        have hmn : (ix + if m - ix < lm then m - ix else lm) = m := by split <;> omega
        have hmn2 : (if m - ix < lm then m - ix else lm) = m - ix := by split <;> omega
        have TO := Lib.hid (show cutTo ix lm m = m by unfold cutTo; rw [if_neg h3])
        have HCN := Lib.hid (show ∀ j u, [Value.int .i64 ix, Value.int .i64 (m)][j]? = some u → ((wr.alloc (.cells #[.int .i64 ix, .int .i64 (m)] 43)).alloc (.cells #[.int .i64 ix, .int .i64 (m)] 43)).cell? ((⟨wr.heap.size + 1, 0, none⟩ : Addr).add j) = some u from by
          have := cell_two_new (wr.alloc (.cells #[.int .i64 ix, .int .i64 (m)] 43)) (.int .i64 ix) (.int .i64 (m)) 43
          rw [World.size_alloc] at this
          exact this)
        have HBA := Lib.hid (show Below wr.heap.size wr ((wr.alloc (.cells #[.int .i64 ix, .int .i64 (m)] 43)).alloc (.cells #[.int .i64 ix, .int .i64 (m)] 43)) from ((Below.refl _ _).alloc (Nat.le_refl _) _).alloc (by simp) _)
        go_wp2_with (at_builtin; refine wpList_append_own _ rfl _ _ 41 rfl w.heap.size 43 i0 (.agg #[.int .i64 0, .int .i64 0]) 2 16 Tryd.underlying41 hi hz0 hz1 hz2 rfl (by decide) (.slice va pre.length vc) pre.length (flatC pre) rfl (ownsRow_below HO.out HBA.out (Nat.le_refl _)) ⟨wr.heap.size + 1, 0, none⟩ 1 1 [.int .i64 ix, .int .i64 (m)] rfl rfl HCN.out (by simp [Value.oneCell']) (by have := HPL.out; unfold maxLen; omega) (by have := HPL.out; omega) (by have := HBA.out.size; omega) ?_)
        intro v2 w2 hown2 hg2 _
        have hb2 : Below w.heap.size w w2 := (HB.out.trans (HBA.out.mono hsz)).grown hg2 (by have := HBA.out.size; omega) (fun q hq => by have := (HO.out.lt q hq).1; omega)
        obtain ⟨g2, c2, rfl⟩ : ∃ g cap, v2 = .slice (some ⟨g, 0, none⟩) (pre.length + 1) cap := by
          rcases hown2.2 with ⟨_, h0⟩ | ⟨g, cap, _, rfl, _⟩
          · omega
          · exact ⟨g, cap, rfl⟩
        have HO2 := Lib.hid (show w2.ownsRow w.heap.size 43 2 (.slice (some ⟨g2, 0, none⟩) (pre.length + 1) c2) (pre ++ [⟨k, ix, m⟩] : List CutP).length (flatC (pre ++ [⟨k, ix, m⟩])) by rw [flatC_snoc, List.length_append]; exact hown2)
        have HB2 := Lib.hid hb2
        have HA2 := Lib.hid (show all = (pre ++ [⟨k, ix, m⟩]) ++ cutsFrom (k + 1) 0 (lm - (m - ix)) (xs.drop (k + 1)) by rw [HA.out, HST.out, TO.out]; simp)
        have HLM := Lib.hid (show -9223372036854775808 ≤ lm - (m - ix) ∧ lm - (m - ix) ≤ 9223372036854775807 by omega)
        clear hown2 hg2 hb2
        go_wp2
        go_roundw
        case rel => exact ⟨k + 1, _, 0, _, _, rfl, HLT.out, by go_num, rfl, rfl, HA2, HO2.out, Int.le_refl _, Lib.hid (fun y _ hy1 => by omega), HLM.out.1, HLM.out.2, HB2.out⟩
        case measure => simp [intOf]; have := HLT.out; omega
    · obtain rfl : k = xs.length := by omega
      have HE := Lib.hid (show all = pre by have := HA.out; rwa [List.drop_length, cutsFrom, List.append_nil] at this)
      have hkI : ¬ (xs.length : Int) < (xs.length : Int) := by omega
      clear HA
      go_wp2
      go_ret
      exact ⟨_, rfl, by rw [HE.out]; exact HO.out, HB.out⟩

end Go.Proofs.YtililoojjfcfgaaDoor
