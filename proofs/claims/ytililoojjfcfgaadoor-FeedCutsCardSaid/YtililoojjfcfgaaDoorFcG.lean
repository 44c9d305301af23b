/- A batch of changes: how it reads (a slice of structs of two byte slices); what is wrong with it. Batches (a slice of slices of changes): how they read; the law's own cut of them. Conditions: none. -/
import Derived.Test.YtililoojjfcfgaaDoorBytes
import Derived.Test.YtililoojjfcfgaaDoorApp
import Derived.Test.YtililoojjfcfgaaDoorFcA
namespace Go.Proofs.YtililoojjfcfgaaDoor
open Go.RowKit
set_option linter.unusedVariables false

abbrev Chg := List Int × List Int
/-- The value is a change of this identity and this key. -/
def Bd (w : World) (v : Value) (p : Chg) : Prop := ∃ i k, v = .agg #[i, k] ∧ Sl w i (p.1.map (Value.int .u8)) ∧ Sl w k (p.2.map (Value.int .u8))
/-- The value is a slice of changes. -/
def Bds (w : World) (v : Value) (l : List Chg) : Prop :=
  ∃ a cap, v = .slice a l.length cap ∧ l.length ≤ cap ∧ cap ≤ maxLen ∧ (0 < l.length → ∃ b off, a = some ⟨b, off, none⟩ ∧ b < w.heap.size ∧
    ∀ i p, l[i]? = some p → ∃ u1 u2, w.cell? ⟨b, off + i * 2, none⟩ = some u1 ∧ w.cell? ⟨b, off + i * 2 + 1, none⟩ = some u2 ∧ Sl w u1 (p.1.map (Value.int .u8)) ∧ Sl w u2 (p.2.map (Value.int .u8)))

theorem Bd.below {w w' : World} {v : Value} {p : Chg} (h : Bd w v p) {B : Nat} (hb : Below B w w') (hB : w.heap.size ≤ B) : Bd w' v p := by
  obtain ⟨i, k, rfl, h1, h2⟩ := h
  exact ⟨i, k, rfl, h1.below hb hB, h2.below hb hB⟩
theorem Bds.below {w w' : World} {v : Value} {l : List Chg} (h : Bds w v l) {B : Nat} (hb : Below B w w') (hB : w.heap.size ≤ B) : Bds w' v l := by
  obtain ⟨a, cap, rfl, h1, h2, h3⟩ := h
  refine ⟨a, cap, rfl, h1, h2, fun hp => ?_⟩
  obtain ⟨b, off, rfl, hlt, hc⟩ := h3 hp
  have := hb.size
  refine ⟨b, off, rfl, by omega, fun i p hi => ?_⟩
  obtain ⟨u1, u2, c1, c2, s1, s2⟩ := hc i p hi
  exact ⟨u1, u2, (hb.cell (p := ⟨b, off + i * 2, none⟩) (by show b < B; omega)).trans c1, (hb.cell (p := ⟨b, off + i * 2 + 1, none⟩) (by show b < B; omega)).trans c2, s1.below hb hB, s2.below hb hB⟩
theorem Bds.shape {w : World} {v : Value} {l : List Chg} (h : Bds w v l) : ∃ a cap, v = .slice a l.length cap ∧ l.length ≤ cap ∧ cap ≤ 9223372036854775807 := by
  obtain ⟨a, cap, rfl, h1, h2, _⟩ := h
  exact ⟨a, cap, rfl, h1, h2⟩
theorem Bds.nil (w : World) : Bds w (.slice none 0 0) [] := ⟨none, 0, rfl, by simp, by unfold maxLen; omega, by simp⟩
theorem Bds.take {w : World} {a : Option Addr} {n cap : Nat} {l : List Chg} (h : Bds w (.slice a n cap) l) (m : Nat) (hm : m ≤ l.length) : Bds w (.slice a m cap) (l.take m) := by
  obtain ⟨a', cap', h0, h1, h2, h3⟩ := h
  cases h0
  have hl : (l.take m).length = m := by rw [List.length_take]; omega
  refine ⟨a, cap, by rw [hl], by omega, h2, fun hp => ?_⟩
  obtain ⟨b, off, rfl, hlt, hc⟩ := h3 (by omega)
  refine ⟨b, off, rfl, hlt, fun i p hi => hc i p ?_⟩
  rw [List.getElem?_take] at hi
  split at hi
  · exact hi
  · cases hi
/-- Where an element lies, and how its two cells read. -/
theorem Bds.at {w : World} {a : Option Addr} {n cap : Nat} {l : List Chg} (h : Bds w (.slice a n cap) l) {k : Nat} (hk : k < l.length) :
    ∃ b off, a = some ⟨b, off, none⟩ ∧ b < w.heap.size ∧ ∃ u1 u2, w.cell? ⟨b, off + k * 2, none⟩ = some u1 ∧ w.cell? ⟨b, off + k * 2 + 1, none⟩ = some u2 ∧
      Sl w u1 ((l.getD k ([], [])).1.map (Value.int .u8)) ∧ Sl w u2 ((l.getD k ([], [])).2.map (Value.int .u8)) := by
  obtain ⟨a', cap', h0, h1, h2, h3⟩ := h
  cases h0
  obtain ⟨b, off, rfl, hlt, hc⟩ := h3 (by omega)
  have hg : l[k]? = some (l.getD k ([], [])) := by rw [List.getD_eq_getElem?_getD, List.getElem?_eq_getElem hk]; rfl
  obtain ⟨u1, u2, c1, c2, s1, s2⟩ := hc k _ hg
  exact ⟨b, off, rfl, hlt, u1, u2, c1, c2, s1, s2⟩

/-- What is wrong with a batch. -/
def chkI (mi mk : Int) (l : List Chg) : Int :=
  if l.length = 0 then 82 else if 32 < l.length then 4 else if l.any (fun p => decide (mi < p.1.length) || decide (mk < p.2.length)) then 1 else if (l.map (·.1)).Nodup then 0 else 80


end Go.Proofs.YtililoojjfcfgaaDoor

namespace Go.Proofs.YtililoojjfcfgaaDoor
open Go.RowKit
set_option linter.unusedVariables false

def Bdss (w : World) (v : Value) (ll : List (List Chg)) : Prop :=
  ∃ vs : List Value, Sl w v vs ∧ vs.length = ll.length ∧ ∀ (i : Nat) (u : Value) (l : List Chg), vs[i]? = some u → ll[i]? = some l → Bds w u l
theorem Bdss.below {w w' : World} {v : Value} {ll : List (List Chg)} (h : Bdss w v ll) {B : Nat} (hb : Below B w w') (hB : w.heap.size ≤ B) : Bdss w' v ll := by
  obtain ⟨vs, h1, h2, h3⟩ := h
  exact ⟨vs, h1.below hb hB, h2, fun i u l hu hl => (h3 i u l hu hl).below hb hB⟩
theorem Bdss.shape {w : World} {v : Value} {ll : List (List Chg)} (h : Bdss w v ll) : ∃ a cap, v = .slice a ll.length cap ∧ ll.length ≤ cap ∧ cap ≤ 9223372036854775807 := by
  obtain ⟨vs, h1, h2, h3⟩ := h
  obtain ⟨a, cap, rfl, h4, h5⟩ := h1.shape
  rw [h2] at h4 ⊢
  exact ⟨a, cap, rfl, h4, h5⟩
theorem Bdss.at {w : World} {a : Option Addr} {n cap : Nat} {ll : List (List Chg)} (h : Bdss w (.slice a n cap) ll) {k : Nat} {l : List Chg} (hk : ll[k]? = some l) :
    ∃ b off, a = some ⟨b, off, none⟩ ∧ b < w.heap.size ∧ ∃ u, w.cell? ⟨b, off + k, none⟩ = some u ∧ Bds w u l := by
  obtain ⟨vs, h1, h2, h3⟩ := h
  have hkl : k < ll.length := (List.getElem?_eq_some_iff.1 hk).1
  obtain ⟨b, off, rfl, hb, hc⟩ := h1.addr (by omega)
  exact ⟨b, off, rfl, hb, vs[k], hc k _ (List.getElem?_eq_getElem (by omega)), h3 k _ _ (List.getElem?_eq_getElem (by omega)) hk⟩
theorem ownsRow_succN {W : World} {base : Nat} {e : TypeId} {size : Nat} {v : Value} {k : Nat} {xs : List Value} (h : W.ownsRow base e size v (k + 1) xs) : ∃ g cap, v = .slice (some ⟨g, 0, none⟩) (k + 1) cap := by
  rcases h.2 with ⟨_, h0⟩ | ⟨g, cap, _, rfl, _⟩
  · omega
  · exact ⟨g, cap, rfl⟩
theorem infoBd : (Tryd.prog.info? 107).map (fun i => (i.zero, i.size, i.bytes)) = some (some (.slice none 0 0), 1, 24) := by kernel_rfl

def few19I (ll : List (List Chg)) : List (List Chg) := (ll.take 10).map fun l => l.take 10
theorem few19_step (ll : List (List Chg)) {k : Nat} {l : List Chg} (hk : ll[k]? = some l) (h10 : k < 10) : few19I (ll.take (k + 1)) = few19I (ll.take k) ++ [l.take 10] := by
  have hkl : k < ll.length := (List.getElem?_eq_some_iff.1 hk).1
  rw [List.getElem?_eq_getElem hkl] at hk
  cases hk
  unfold few19I
  rw [List.take_take, List.take_take, Nat.min_eq_right (by omega), Nat.min_eq_right (by omega), List.take_succ_eq_append_getElem hkl, List.map_append]; rfl
theorem few19_stay (ll : List (List Chg)) {k : Nat} (h10 : 10 ≤ k) : few19I (ll.take (k + 1)) = few19I (ll.take k) := by
  unfold few19I
  rw [List.take_take, List.take_take, Nat.min_eq_left (by omega), Nat.min_eq_left (by omega)]

set_option maxRecDepth 100000 in
set_option maxHeartbeats 1000000 in
theorem few19_any (v : Value) (ll : List (List Chg)) (w : World) (h : Bdss w v ll) :
    Calls Tryd.prog 19 #[v] w fun e w' => ∃ x, e = .returned x ∧ Bdss w' x (few19I ll) ∧ Below w.heap.size w w' := by
  obtain ⟨a, cap, rfl, hc, hm⟩ := h.shape
  have HH := Lib.hid h
  obtain ⟨i0, hi, hz0, hz1, hz2⟩ := info_parts infoBd
  clear h
  go_enter Tryd.func19, Tryd.ntmps19
  go_wp2
  go_loopw [3, 8] (fun o i wr => ∃ (k : Nat) (ov : Value) (us : List Value), ov = o ∧ k ≤ ll.length ∧ i = .int .i64 k ∧ wr.ownsRow w.heap.size 107 1 ov us.length us ∧ us.length = (few19I (ll.take k)).length ∧ Hid (∀ (j : Nat) (u : Value) (l : List Chg), us[j]? = some u → (few19I (ll.take k))[j]? = some l → Bds w u l) ∧ Below w.heap.size w wr) (fun _ i _ => ll.length - (intOf i).toNat)
  case atStart => exact ⟨0, _, [], rfl, by omega, rfl, World.ownsRow_nil _ _ _ _, by simp [few19I], fun j u l hu => by simp at hu, Below.refl _ _⟩
  case round =>
    obtain ⟨k, ov, us, rfl, hk, rfl, hO, hul, HU, hbr⟩ := hrel
    by_cases hlt : k < ll.length
    · have hkI : (k : Int) < (ll.length : Int) := by omega
      obtain ⟨l, hl⟩ : ∃ l, ll[k]? = some l := ⟨ll[k], List.getElem?_eq_getElem hlt⟩
      obtain ⟨b, off, rfl, hbb, u, cu, hu⟩ := HH.out.at hl
      have cu := (hbr.cell (p := ⟨b, off + k, none⟩) hbb).trans cu
      obtain ⟨ua, uc, rfl, huc, hum⟩ := hu.shape
      have HBU := Lib.hid hu
      have HL := Lib.hid hl
      have HLT := Lib.hid hlt
      have HBR := Lib.hid hbr
      have HO := Lib.hid hO
      have HUL := Lib.hid hul
      have hsz := hbr.size
      clear hu hl hbr hO hul
      by_cases h10 : k < 10
      · have h10I : (k : Int) < 10 := by omega
        have HST := Lib.hid (few19_step ll HL.out h10)
        have h10n : us.length ≤ 10 := by rw [HUL.out]; unfold few19I; simp; omega
        have HN := Lib.hid h10n
        clear h10n
        obtain ⟨va, vc, rfl, hvc1, hvc2⟩ : ∃ a c, ov = Value.slice a us.length c ∧ us.length ≤ c ∧ c ≤ 9223372036854775807 := (Sl.of_owns HO.out).shape
        by_cases hl10 : l.length ≤ 10
        · have hlI : (l.length : Int) ≤ 10 := by omega
          have HX := Lib.hid (show Bds w (.slice ua l.length uc) (l.take 10) by rw [List.take_of_length_le hl10]; exact HBU.out)
          go_wp2_with (at_builtin; refine wpList_append_own _ rfl _ _ 36 rfl w.heap.size 107 i0 (.slice none 0 0) 1 24 Tryd.underlying36 hi hz0 hz1 hz2 rfl (by decide) (.slice va us.length vc) us.length us rfl (ownsRow_below HO.out ((Below.refl _ _).alloc (Nat.le_refl _) _) (Nat.le_refl _)) ⟨wr.heap.size, 0, none⟩ 1 1 [.slice ua l.length uc] rfl rfl (cell_one_new _ _ _) (by simp [Value.oneCell']) (by have := HN.out; unfold maxLen; omega) (by have := HN.out; omega) (by simp; omega) ?_)
          intro v2 w2 hown2 hg2 _
          have hb2 := below_append HBR.out HO.out (Nat.le_refl _) hsz hg2
          obtain ⟨g2, c2, rfl⟩ := ownsRow_succN hown2
          have HO2 := Lib.hid hown2
          have HB2 := Lib.hid hb2
          clear hown2 hg2 hb2
          go_wp2
          go_roundw
          case rel =>
            refine ⟨k + 1, _, us ++ [.slice ua l.length uc], rfl, HLT.out, by go_num, by rw [List.length_append]; exact HO2.out, ?_, fun j u q hj hq => ?_, HB2.out⟩
            · rw [HST.out, List.length_append, List.length_append, HUL.out]; rfl
            · rw [HST.out] at hq
              have e := HUL.out
              rcases Nat.lt_or_ge j us.length with hlt | hge
              · rw [List.getElem?_append_left hlt] at hj
                rw [List.getElem?_append_left (by omega)] at hq
                exact HU j u q hj hq
              · rw [List.getElem?_append_right hge] at hj
                rw [List.getElem?_append_right (by omega)] at hq
                have h0 : j - us.length = 0 := by
                  have := (List.getElem?_eq_some_iff.1 hj).1
                  simp at this; omega
                rw [h0] at hj
                rw [← e, h0] at hq
                cases hj; cases hq
                exact HX.out
          case measure => simp [intOf]; have := HLT.out; omega
        · have hlI : (10 : Int) < (l.length : Int) := by omega
          have hcI : (10 : Int) ≤ (uc : Int) := by omega
          have HX := Lib.hid (show Bds w (.slice ua 10 uc) (l.take 10) by exact HBU.out.take 10 (by omega))
          go_wp2_with (at_builtin; refine wpList_append_own _ rfl _ _ 36 rfl w.heap.size 107 i0 (.slice none 0 0) 1 24 Tryd.underlying36 hi hz0 hz1 hz2 rfl (by decide) (.slice va us.length vc) us.length us rfl (ownsRow_below HO.out ((Below.refl _ _).alloc (Nat.le_refl _) _) (Nat.le_refl _)) ⟨wr.heap.size, 0, none⟩ 1 1 [.slice ua 10 uc] rfl rfl (cell_one_new _ _ _) (by simp [Value.oneCell']) (by have := HN.out; unfold maxLen; omega) (by have := HN.out; omega) (by simp; omega) ?_)
          intro v2 w2 hown2 hg2 _
          have hb2 := below_append HBR.out HO.out (Nat.le_refl _) hsz hg2
          obtain ⟨g2, c2, rfl⟩ := ownsRow_succN hown2
          have HO2 := Lib.hid hown2
          have HB2 := Lib.hid hb2
          clear hown2 hg2 hb2
          go_wp2
          go_roundw
          case rel =>
            refine ⟨k + 1, _, us ++ [.slice ua 10 uc], rfl, HLT.out, by go_num, by rw [List.length_append]; exact HO2.out, ?_, fun j u q hj hq => ?_, HB2.out⟩
            · rw [HST.out, List.length_append, List.length_append, HUL.out]; rfl
            · rw [HST.out] at hq
              have e := HUL.out
              rcases Nat.lt_or_ge j us.length with hlt | hge
              · rw [List.getElem?_append_left hlt] at hj
                rw [List.getElem?_append_left (by omega)] at hq
                exact HU j u q hj hq
              · rw [List.getElem?_append_right hge] at hj
                rw [List.getElem?_append_right (by omega)] at hq
                have h0 : j - us.length = 0 := by
                  have := (List.getElem?_eq_some_iff.1 hj).1
                  simp at this; omega
                rw [h0] at hj
                rw [← e, h0] at hq
                cases hj; cases hq
                exact HX.out
          case measure => simp [intOf]; have := HLT.out; omega
      · have h10I : (10 : Int) ≤ (k : Int) := by omega
        have HST := Lib.hid (few19_stay ll (k := k) (by omega))
        go_wp2
        go_roundw
        case rel => exact ⟨k + 1, _, us, rfl, HLT.out, by go_num, HO.out, by rw [HST.out]; exact HUL.out, by rw [HST.out]; exact HU, HBR.out⟩
        case measure => simp [intOf]; have := HLT.out; omega
    · obtain rfl : k = ll.length := by omega
      rw [List.take_length] at hul HU
      obtain ⟨va, vc, rfl, hvc1, hvc2⟩ : ∃ a c, ov = Value.slice a us.length c ∧ us.length ≤ c ∧ c ≤ 9223372036854775807 := (Sl.of_owns hO).shape
      have HO := Lib.hid hO
      have HUL := Lib.hid hul
      have HB := Lib.hid hbr
      clear hO hul hbr
      go_wp2
      go_ret
      exact ⟨_, rfl, ⟨us, Sl.of_owns HO.out, HUL.out, fun i u l hu hl => (HU i u l hu hl).below HB.out (Nat.le_refl _)⟩, HB.out⟩

end Go.Proofs.YtililoojjfcfgaaDoor
