/- Spoil: every byte of texts of the call's own is turned. -/
import Derived.Test.YteaimjfpmacgeaaDvE
namespace Go.Proofs.Yteaimjfpmacgeaa
open Go.RowKit
set_option linter.unusedVariables false

/-- A row of texts of the call's own, whatever they say. -/
def ARow (w : World) (base : Nat) (v : Value) (us : List Value) : Prop := w.ownsRow base 29 1 v us.length us ∧ ∀ u ∈ us, ∃ bs, OB w base u bs
theorem OBAll.any {w : World} {base : Nat} : ∀ {us : List Value} {ps : List (List Int)}, OBAll w base us ps → ∀ u ∈ us, ∃ bs, OB w base u bs
  | [], [], _, u, hu => by cases hu
  | [], _ :: _, h, _, _ => h.elim
  | _ :: _, [], h, _, _ => h.elim
  | x :: us, p :: ps, h, u, hu => by
    rcases List.mem_cons.1 hu with rfl | hu
    · exact ⟨p, h.1⟩
    · exact h.2.any u hu
theorem OBs.arow {w : World} {base : Nat} {v : Value} {pss : List (List Int)} (h : OBs w base v pss) : ∃ us, us.length = pss.length ∧ ARow w base v us := by
  obtain ⟨vs, h1, h2⟩ := h
  exact ⟨vs, h2.len, by rw [h2.len]; exact h1, h2.any⟩
/-- A byte of one block is turned: a text of that block is a text. -/
theorem OB.turn {w : World} {base : Nat} {u : Value} {bs : List Int} (h : OB w base u bs) (g j : Nat) (x : Int) : ∃ bs', OB (w.setCell ⟨g, j, none⟩ (.int .u8 x)) base u bs' := by
  obtain ⟨h1, h2⟩ := h
  rcases h2 with ⟨rfl, e⟩ | ⟨g', c, cur, rfl, hb, hh, hn, hm, hc, ht⟩
  · exact ⟨bs, h1, .inl ⟨rfl, e⟩⟩
  · by_cases e : g' = g
    · subst e
      have k : Blk w g' 5 cur := hh
      have k2 := k.set_ j (.int .u8 x)
      refine ⟨if j < bs.length then bs.set j x else bs, ?_⟩
      have el : (if j < bs.length then bs.set j x else bs).length = bs.length := by split <;> simp
      unfold OB
      rw [el]
      refine ⟨by rw [List.length_map, el]; omega, .inr ⟨g', c, _, rfl, hb, k2, hn, hm, by rw [Array.size_setIfInBounds]; exact hc, ?_⟩⟩
      rw [Array.toList_setIfInBounds, List.take_set, ht]
      split
      · rw [List.map_set]
      · rename_i hj
        rw [List.set_eq_of_length_le (by rw [List.length_map]; omega)]
    · exact ⟨bs, h1, .inr ⟨g', c, cur, rfl, hb, (Blk.far (show Blk w g' 5 cur from hh) (p := ⟨g, j, none⟩) e (.int .u8 x)), hn, hm, hc, ht⟩⟩
theorem ARow.turn {w : World} {base : Nat} {v : Value} {us : List Value} (h : ARow w base v us) {g : Nat} {cur : Array Value} (k : Blk w g 5 cur) (j : Nat) (x : Int) : ARow (w.setCell ⟨g, j, none⟩ (.int .u8 x)) base v us := by
  refine ⟨?_, fun u hu => by obtain ⟨bs, hb⟩ := h.2 u hu; exact hb.turn g j x⟩
  exact (Only.setCell [g] w (p := ⟨g, j, none⟩) (by simp) (.int .u8 x)).owns h.1 fun g' hg' hm => by
    obtain ⟨cur2, k2⟩ := owns_blk h.1 hg'
    obtain rfl : g' = g := by simpa using hm
    exact Blk.ne_ k k2 (by decide) rfl

set_option maxRecDepth 100000 in
set_option maxHeartbeats 1000000 in
theorem spoil_any (base : Nat) (v : Value) (us : List Value) (w : World) (hl : us.length ≤ 100000) (h : ARow w base v us) (hbase : base ≤ w.heap.size) :
    Calls Try.prog 35 #[v] w fun e w' => e = .returned (.tuple #[]) ∧ Below base w w' := by
  obtain ⟨va, vc, rfl⟩ : ∃ a c, v = Value.slice a us.length c := by
    obtain ⟨a, c, e, _⟩ := (Sl.of_owns h.1).shape
    exact ⟨a, c, e⟩
  have HA := Lib.hid h
  have HBS := Lib.hid hbase
  clear h hbase
  go_enter Try.func35, Try.ntmps35
  go_wp2
  go_loopw [7] (fun i wr => ∃ k : Nat, k ≤ us.length ∧ i = .int .i64 k ∧ ARow wr base (.slice va us.length vc) us ∧ Below base w wr) (fun i _ => us.length - (intOf i).toNat)
  case atStart => exact ⟨0, by omega, rfl, HA.out, Below.refl _ _⟩
  case round =>
    obtain ⟨k, hk, rfl, hA, hb⟩ := hrel
    by_cases hlt : k < us.length
    · have hkI : (k : Int) < (us.length : Int) := by omega
      obtain ⟨bs, hOB⟩ := hA.2 us[k] (List.getElem_mem hlt)
      obtain ⟨g, c1, e1, hg⟩ := hA.1.form (by omega)
      cases e1
      have cx := World.ownsRow.cellAt hA.1 k (by rw [Nat.mul_one]; exact hlt)
      rw [List.getElem?_eq_getElem hlt] at cx
      generalize us[k] = u at *
      obtain ⟨ua, un, uc, rfl⟩ := hOB.sl.val
      have hun : un = bs.length := by have := hOB.sl.len.1; rw [List.length_map] at this; exact this
      subst hun
      have hbm : bs.length ≤ 9223372036854775807 := by have := hOB.sl.len.2; unfold maxLen at this; omega
      have HA2 := Lib.hid hA
      have HB2 := Lib.hid hb
      have HOB := Lib.hid hOB
      clear hA hb hOB hg
      go_wp2
      go_loopw [13] (fun j wq => ∃ m : Nat, m ≤ bs.length ∧ j = .int .i64 m ∧ ARow wq base (.slice (some ⟨g, 0, none⟩) us.length vc) us ∧ (∃ bs', bs'.length = bs.length ∧ OB wq base (.slice ua bs.length uc) bs') ∧ Below base w wq) (fun j _ => bs.length - (intOf j).toNat)
      case atStart => exact ⟨0, by omega, rfl, HA2.out, ⟨bs, rfl, HOB.out⟩, HB2.out⟩
      case round =>
        obtain ⟨m, hm, rfl, hA, ⟨bs', hl', hO⟩, hb⟩ := hrel
        by_cases hlm : m < bs.length
        · have hmI : (m : Int) < (bs.length : Int) := by omega
          have hO2 : wr.ownsRow base 5 1 (.slice ua bs.length uc) bs.length (bs'.map (Value.int .u8)) := by have h := hO; unfold OB at h; rw [hl'] at h; exact h
          obtain ⟨g2, c2, e2, hg2⟩ := hO2.form (by omega)
          obtain ⟨rfl, rfl⟩ : ua = some ⟨g2, 0, none⟩ ∧ uc = c2 := by injection e2 with q1 q2 q3; exact ⟨q1, q3⟩
          have cy := World.ownsRow.cellAt hO2 m (by omega)
          have hy : (bs'.map (Value.int .u8))[m]? = some (.int .u8 bs'[m]) := by rw [List.getElem?_map, List.getElem?_eq_getElem (by omega)]; rfl
          rw [hy] at cy
          obtain ⟨cur, kk⟩ := owns_blk hO2 (g := g2) rfl
          have f := kk.frozen m
          have HT := Lib.hid (fun x => hA.turn kk m x)
          have HTO := Lib.hid (fun x => (show ∃ b2 : List Int, b2.length = bs.length ∧ OB (wr.setCell ⟨g2, m, none⟩ (.int .u8 x)) base (.slice (some ⟨g2, 0, none⟩) bs.length uc) b2 from by
            obtain ⟨b2, h2⟩ := hO.turn g2 m x
            have := h2.sl.len.1
            rw [List.length_map] at this
            exact ⟨b2, this.symm, h2⟩))
          have hge : base ≤ g2 := by
            rcases hO2.2 with ⟨e, _⟩ | ⟨g3, c3, cur3, e, h3, _⟩
            · cases e
            · cases e; exact h3
          have HBT := Lib.hid (fun x => (Only.belowOf hb (Only.setCell [g2] _ (p := ⟨g2, m, none⟩) (by simp) (.int .u8 x)) (Nat.le_trans HBS.out hb.size) (by simpa using hge)))
          generalize bs'[m] = q at *
          clear hA hO hO2 hb kk hy hl' hge e2 hg2
          go_wp2
          exact ⟨⟨m + 1, hlm, by go_num, HT.out _, HTO.out _, HBT.out _⟩, by simp [intOf]; omega⟩
        · obtain rfl : m = bs.length := by omega
          have hmI : ¬ (bs.length : Int) < (bs.length : Int) := by omega
          have HA3 := Lib.hid hA
          have HB3 := Lib.hid hb
          clear hA hO hb
          go_wp2
          exact ⟨⟨k + 1, hlt, by go_num, HA3.out, HB3.out⟩, by simp [intOf]; omega⟩
    · obtain rfl : k = us.length := by omega
      have hkI : ¬ (us.length : Int) < (us.length : Int) := by omega
      have HB := Lib.hid hb
      clear hA hb
      go_wp2
      go_end0
      exact ⟨rfl, HB.out⟩

end Go.Proofs.Yteaimjfpmacgeaa
