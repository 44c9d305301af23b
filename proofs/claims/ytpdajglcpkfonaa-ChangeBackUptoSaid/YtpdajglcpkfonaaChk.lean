/- The walk of the batch's check (a map that the call makes). -/
import Derived.Test.YtpdajglcpkfonaaBnd
import Derived.Test.YtpdajglcpkfonaaBlk
import Derived.Maps.OwnOps
import Derived.Maps.OwnSet
import Derived.Maps.Views
import Derived.Deep.QuietTactic
import Derived.BigQuiet
import Derived.Outline
namespace Go.Proofs.Ytpdajglcpkfonaa
open Go.RowKit Go.Maps Go.WideMaps
set_option linter.unusedVariables false

theorem keyLaw : Keyed Try.prog 9 := string_keyed Try.underlying9
theorem zeroI (w : World) : (zeroValue 3).run Try.prog w = .ok (.int .i64 0) w := by kernel_rfl

def keyOfI (xs : List Int) : Lit := .string (strOfNums xs).data.toList
/-- What the map holds behind the first changes. -/
structure Seen (D : DataW Unit) (ids : List (List Int)) (k : Nat) : Prop where
  tidy : Tidy D
  has : ∀ x, IsB x → has D (keyOfI x) = decide (x ∈ ids.take k)
  le : size D ≤ k
  eq : size D = k ↔ (ids.take k).Nodup

theorem keyOfI_lit (x : List Int) : WideAt.IsKeyLit (keyOfI x) := trivial
theorem keyOfI_ne {x y : List Int} (hx : IsB x) (hy : IsB y) (h : x ≠ y) : keyOfI x ≠ keyOfI y := fun he => by
  unfold keyOfI at he
  injection he with he
  rw [strOfNums_data, strOfNums_data] at he
  exact h (bytes_inj hx hy he)
theorem Seen.nil (ids : List (List Int)) : Seen (.map []) ids 0 := ⟨tidy_empty, fun x _ => by simp [has_eq], by simp [size_eq], by simp [size_eq]⟩
theorem Seen.step {D : DataW Unit} {ids : List (List Int)} {k : Nat} (h : Seen D ids k) (hk : k < ids.length) (hB : ∀ x ∈ ids, IsB x) (d : DataW Unit) : Seen (D.put (keyOfI (ids.getD k [])) d) ids (k + 1) := by
  have hg : ids.getD k [] = ids[k] := by rw [List.getD_eq_getElem?_getD, List.getElem?_eq_getElem hk]; rfl
  have hx : IsB (ids.getD k []) := by rw [hg]; exact hB _ (List.getElem_mem hk)
  have ht : ids.take (k + 1) = ids.take k ++ [ids.getD k []] := by rw [List.take_succ_eq_append_getElem hk, hg]
  generalize ids.getD k [] = x at *
  have hh := h.has x hx
  have hs := size_put (k := keyOfI x) h.tidy d
  have hle := h.le
  have heq := h.eq
  refine ⟨h.tidy.put (keyOfI_lit x) d, fun y hy => ?_, ?_, ?_⟩
  · rw [ht]
    by_cases he : y = x
    · subst he
      rw [has_put_same h.tidy.isMap (keyOfI_lit y)]
      simp
    · rw [has_put_other (keyOfI_ne hy hx he), h.has y hy]
      simp [he]
  · rw [hs]; split <;> omega
  · rw [hs, hh, ht]
    by_cases hm : x ∈ ids.take k
    · rw [decide_eq_true hm, if_pos rfl]
      refine ⟨fun e => by omega, fun hn => ?_⟩
      rw [List.nodup_append] at hn
      exact absurd rfl (hn.2.2 x hm x (by simp))
    · rw [decide_eq_false hm, if_neg (by simp), List.nodup_append]
      refine ⟨fun e => ⟨heq.1 (by omega), by simp, fun a ha b hb => ?_⟩, fun hn => by rw [heq.2 hn.1]⟩
      simp only [List.mem_singleton] at hb
      subst hb
      exact fun e => hm (e ▸ ha)

def Long (mi mk : Int) (p : Chg) : Bool := decide (mi < p.1.length) || decide (mk < p.2.length)
theorem chk_long {mi mk : Int} {l : List Chg} (h0 : 0 < l.length) (h1 : ¬ 32 < l.length) (k : Nat) (hk : k < l.length) (h : Long mi mk (l.getD k ([], [])) = true) : chkI mi mk l = 1 := by
  unfold chkI
  rw [if_neg (by omega), if_neg h1, if_pos]
  refine List.any_eq_true.2 ⟨l.getD k ([], []), ?_, h⟩
  rw [List.getD_eq_getElem?_getD, List.getElem?_eq_getElem hk]
  exact List.getElem_mem hk
theorem chk_end {mi mk : Int} {l : List Chg} (h0 : 0 < l.length) (h1 : ¬ 32 < l.length) (h : ∀ p ∈ l, Long mi mk p = false) : chkI mi mk l = if (l.map (·.1)).Nodup then 0 else 80 := by
  unfold chkI
  rw [if_neg (by omega), if_neg h1, if_neg]
  intro hc
  obtain ⟨p, hp, hl⟩ := List.any_eq_true.1 hc
  exact absurd ((h p hp).symm.trans hl) (by decide)

def ChkPost (w : World) (mi mk : Int) (l : List Chg) (e : Ending) (w' : World) : Prop := e = .returned (.int .i64 (chkI mi mk l)) ∧ Below w.heap.size w w'

set_option maxRecDepth 100000 in
set_option maxHeartbeats 1000000 in
theorem check_any (p0 p1 p2 p3 p4 p5 p6 p7 : Int) (v : Value) (l : List Chg) (w : World) (hB : ∀ p ∈ l, IsB p.1) (hs : Bds w v l) :
    Calls Try.prog 23 #[.agg #[.int .i64 p0, .int .i64 p1, .int .i64 p2, .int .i64 p3, .int .i64 p4, .int .i64 p5, .int .i64 p6, .int .i64 p7], v] w (ChkPost w p2 p3 l) := by
  obtain ⟨a, cap, rfl, hc, hm⟩ := hs.shape
  have hmm := @run_makeMap Try.prog
  by_cases h0 : l.length = 0
  · have hr : chkI p2 p3 l = 82 := by unfold chkI; rw [if_pos h0]
    have HR := Lib.hid hr
    have h0I : (l.length : Int) = 0 := by omega
    clear hr hs hB
    go_enter Try.func23, Try.ntmps23
    go_wp2
    go_ret
    exact ⟨by rw [HR.out]; rfl, (Below.refl _ _).alloc (Nat.le_refl _) _⟩
  · by_cases h1 : 32 < l.length
    · have hr : chkI p2 p3 l = 4 := by unfold chkI; rw [if_neg h0, if_pos h1]
      have HR := Lib.hid hr
      have h0I : ¬ (l.length : Int) = 0 := by omega
      have h1I : (32 : Int) < (l.length : Int) := by omega
      clear hr hs hB
      go_enter Try.func23, Try.ntmps23
      go_wp2
      go_ret
      exact ⟨by rw [HR.out]; rfl, (Below.refl _ _).alloc (Nat.le_refl _) _⟩
    · have h0I : ¬ (l.length : Int) = 0 := by omega
      have h1I : ¬ (32 : Int) < (l.length : Int) := by omega
      have hb1 : Below w.heap.size w (w.alloc (.cells #[.int .i64 p0, .int .i64 p1, .int .i64 p2, .int .i64 p3, .int .i64 p4, .int .i64 p5, .int .i64 p6, .int .i64 p7] 49)) := (Below.refl _ _).alloc (Nat.le_refl _) _
      have kP := Blk.new w 49 #[.int .i64 p0, .int .i64 p1, .int .i64 p2, .int .i64 p3, .int .i64 p4, .int .i64 p5, .int .i64 p6, .int .i64 p7]
      have hs1 := hs.below hb1 (Nat.le_refl _)
      have hsz1 : (w.alloc (.cells #[.int .i64 p0, .int .i64 p1, .int .i64 p2, .int .i64 p3, .int .i64 p4, .int .i64 p5, .int .i64 p6, .int .i64 p7] 49)).heap.size = w.heap.size + 1 := by simp
      have HB := Lib.hid hB
      have HE := Lib.hid (fun h => chk_end (mi := p2) (mk := p3) (l := l) (by omega) h1 h)
      have HL := Lib.hid (fun k hk h => chk_long (mi := p2) (mk := p3) (l := l) (by omega) h1 k hk h)
      clear hs
      go_enter Try.func23, Try.ntmps23
      go_wp2
      generalize (w.alloc (.cells #[.int .i64 p0, .int .i64 p1, .int .i64 p2, .int .i64 p3, .int .i64 p4, .int .i64 p5, .int .i64 p6, .int .i64 p7] 49)) = w1 at *
      go_loopw [20] (fun i wr => ∃ (k : Nat) (D : DataW Unit), k ≤ l.length ∧ i = .int .i64 k ∧ wr.ownsMap Try.prog 9 (plainElem (H := Unit) Try.prog 3) (w.heap.size + 1) k D ∧ Hid (Seen D (l.map (·.1)) k) ∧ Hid (∀ j, j < k → Long p2 p3 (l.getD j ([], [])) = false) ∧ Below w1.heap.size w1 wr)
        (fun i _ => l.length - (intOf i).toNat)
      case atStart => exact ⟨0, .map [], Nat.zero_le _, rfl, by rw [← hsz1]; exact World.ownsMap_made _ _ _ _, Seen.nil _, fun j hj => absurd hj (by omega), (Below.refl _ _).alloc (Nat.le_refl _) _⟩
      case round =>
        obtain ⟨k, D, hk, rfl, hown, hseen, hlong, hnx⟩ := hrel
        have kr := kP.belowS hnx
        have q2 : wr.cell? ⟨w.heap.size, 2, none⟩ = some (.int .i64 p2) := kr.cell 2
        have q3 : wr.cell? ⟨w.heap.size, 3, none⟩ = some (.int .i64 p3) := kr.cell 3
        by_cases hlt : k < l.length
        · have hkI : (k : Int) < (l.length : Int) := by omega
          obtain ⟨b, off, rfl, hbl, u1, u2, c1, c2, s1, s2⟩ := hs1.at hlt
          have c1 : wr.cell? ⟨b, off + k * 2, none⟩ = some u1 := (hnx.cell (p := ⟨b, off + k * 2, none⟩) hbl).trans c1
          have c2 : wr.cell? ⟨b, off + k * 2 + 1, none⟩ = some u2 := (hnx.cell (p := ⟨b, off + k * 2 + 1, none⟩) hbl).trans c2
          have s1 := s1.below hnx (Nat.le_refl _)
          have s2 := s2.below hnx (Nat.le_refl _)
          have HLk := Lib.hid (HL.out k hlt)
          have HSt := Lib.hid (fun d => hseen.out.step (by simpa using hlt) (fun x hx => by obtain ⟨p, hp, rfl⟩ := List.mem_map.1 hx; exact HB.out p hp) d)
          rw [show (l.map (·.1)).getD k [] = (l.getD k ([], [])).1 by simp [List.getD_eq_getElem?_getD, List.getElem?_map, List.getElem?_eq_getElem hlt]] at HSt
          generalize hP : l.getD k ([], []) = P at *
          obtain ⟨x, y⟩ := P
          have HP := Lib.hid hP
          clear hP
          obtain ⟨xa, xc, rfl, _, hxm⟩ := s1.shape
          obtain ⟨ya, yc, rfl, _, _⟩ := s2.shape
          simp only [List.length_map] at *
          have hbA : Below wr.heap.size wr (wr.alloc (.cells #[.slice xa x.length xc, .slice ya y.length yc] 74)) := (Below.refl _ _).alloc (Nat.le_refl _) _
          have kA := kr.belowS hbA
          have q2 : (wr.alloc (.cells #[.slice xa x.length xc, .slice ya y.length yc] 74)).cell? ⟨w.heap.size, 2, none⟩ = some (.int .i64 p2) := kA.cell 2
          have q3 : (wr.alloc (.cells #[.slice xa x.length xc, .slice ya y.length yc] 74)).cell? ⟨w.heap.size, 3, none⟩ = some (.int .i64 p3) := kA.cell 3
          have hownA := hown.alloc (.cells #[.slice xa x.length xc, .slice ya y.length yc] 74)
          have hnxA := hnx.trans (hbA.mono hnx.size)
          have cv := (s1.below hbA (Nat.le_refl _)).conv
          by_cases hx : p2 < (x.length : Int)
          · have hr := HLk.out (by unfold Long; rw [decide_eq_true hx]; rfl)
            have HR := Lib.hid hr
            clear hr hnx kr kP hs1 s1 s2 hB cv hown
            go_wp2
            go_ret
            exact ⟨by rw [HR.out]; rfl, (hb1.trans (hnxA.mono (by omega)))⟩
          · by_cases hy : p3 < (y.length : Int)
            · have hr := HLk.out (by unfold Long; rw [decide_eq_true hy, Bool.or_true])
              have HR := Lib.hid hr
              clear hr hnx kr kP hs1 s1 s2 hB cv hown
              go_wp2
              go_ret
              exact ⟨by rw [HR.out]; rfl, (hb1.trans (hnxA.mono (by omega)))⟩
            · have hkey : keyOf Try.prog 9 (.string (strOfNums x)) = some (keyOfI x) := keyOf_string_mk Try.underlying9 (by
                have : (strOfNums x).size = x.length := by
                  show (strOfNums x).data.size = _; rw [← Array.length_toList, strOfNums_data, List.length_map]
                rw [this]; unfold maxLen; omega)
              have HLo := Lib.hid (show Long p2 p3 (x, y) = false by unfold Long; rw [decide_eq_false hx, decide_eq_false hy]; rfl)
              clear hnx kr kP hs1 s1 s2 hB hown
              go_wp2_with (first
                | (at_lookup; refine wpList_lookup_own_int _ rfl _ _ 72 rfl 9 3 .i64 keyLaw Try.underlying72 Try.underlying3 (zeroI _) (w.heap.size + 1) k _ rfl hownA _ _ rfl hkey ?_; intro c hat hwc)
                | (at_mapUpdate; refine wpList_mapUpdate_own _ rfl _ _ _ 72 rfl 9 3 keyLaw Try.underlying72 _ (w.heap.size + 1) k _ rfl hownA (by unfold maxLen; omega) _ _ _ rfl rfl hkey _ [] (plainElem_int Try.underlying3 (wrap64_wf _)) ?_; intro w2 hown2 hgrow2)
                | go_in)
              exact ⟨⟨k + 1, _, by omega, by go_num, hown2, HSt.out _, fun j hj => by
                rcases Nat.lt_or_ge j k with h | h
                · exact hlong.out j h
                · obtain rfl : j = k := by omega
                  rw [HP.out]; exact HLo.out, hnxA.grown hgrow2 hnxA.size (fun j hj => by cases hj; omega)⟩, by simp [intOf]; omega⟩
        · obtain rfl : k = l.length := by omega
          have hkI : ¬ (l.length : Int) < (l.length : Int) := by omega
          have hall : ∀ p ∈ l, Long p2 p3 p = false := fun p hp => by
            obtain ⟨j, hj, rfl⟩ := List.mem_iff_getElem.1 hp
            have := hlong.out j hj
            rwa [List.getD_eq_getElem?_getD, List.getElem?_eq_getElem hj] at this
          have hr := HE.out hall
          have heq := hseen.out.eq
          have hle := hseen.out.le
          rw [List.take_of_length_le (by simp)] at heq
          have HLEN := Lib.hid (hown.len Try.underlying72)
          by_cases hd : size D < l.length
          · rw [if_neg (fun h => by have := heq.2 h; omega)] at hr
            have HR := Lib.hid hr
            have hdI : ((size D : Nat) : Int) < (l.length : Int) := by omega
            clear hr hall heq hle hs1 hB kP kr HLEN
            go_wp2_with (first
              | (at_len; refine wpList_len_own _ rfl _ 72 rfl 9 3 Try.underlying72 _ (w.heap.size + 1) l.length _ rfl hown ?_)
              | go_in)
            go_ret
            exact ⟨by rw [HR.out]; rfl, hb1.trans (hnx.mono (by omega))⟩
          · rw [if_pos (heq.1 (by omega))] at hr
            have HR := Lib.hid hr
            have hdI : ¬ ((size D : Nat) : Int) < (l.length : Int) := by omega
            clear hr hall heq hle hs1 hB kP kr HLEN
            go_wp2_with (first
              | (at_len; refine wpList_len_own _ rfl _ 72 rfl 9 3 Try.underlying72 _ (w.heap.size + 1) l.length _ rfl hown ?_)
              | go_in)
            go_ret
            exact ⟨by rw [HR.out]; rfl, hb1.trans (hnx.mono (by omega))⟩

end Go.Proofs.Ytpdajglcpkfonaa
