/- The walks of Range and of its closure. -/
import Derived.Test.YtililoojjfcfgaaDoorFcH
import Derived.Test.YtililoojjfcfgaaDoorFcA
import Derived.Deep.RegionLaw
namespace Go.Proofs.YtililoojjfcfgaaDoor
open Go.RowKit
set_option linter.unusedVariables false

theorem step_append_text {w : World} {ops : Array Oper} {o : Oper} {a : Act} {K : Act → World → Prop} {Q : Exit → Act → World → Prop} {E : Prop} (hgd : o.guard = none) (s x : Operand)
    (ho : o.op = .call { callee := .builtin .append, args := #[s, x], argTypes := #[23, 23] })
    (base : Nat) (v : Value) (pss : List (List Int)) (hs : a.eval s = v) (hown : OSls w base v pss)
    (b cap : Nat) (hx : a.eval x = .slice (some ⟨b, 0, none⟩) 1 cap) (u : Value) (hc : w.cell? ⟨b, 0, none⟩ = some u) (p : List Int) (hu : Sl w u (p.map (Value.int .u8)))
    (h63 : pss.length + 1 ≤ 5000000000000) (hbase : base ≤ w.heap.size)
    (h : ∀ v' w', OSls w' base v' (pss ++ [p]) → Below base w w' → w.grownBy w' v.ownBlock → K (a.put o.dst v') w') : if Region.wanted o (yielded ops a.tmps) = true then Oper.wp Tryd.prog o a w K Q else E := by
  have hw : Region.wanted o (yielded ops a.tmps) = true := by simp [Region.wanted, hgd]
  rw [if_pos hw]
  obtain ⟨vs, h1, h2⟩ := hown
  obtain ⟨i0, hi, hz0, hz1, hz2⟩ := info_parts infoT
  obtain ⟨ua, un, uc, rfl⟩ := hu.val
  obtain ⟨v', w', hrun, hown', hg⟩ := run_append_ownK (P := Tryd.prog) w base 23 o.type 22 i0 (.slice none 0 0) 1 24 Tryd.underlying23 hi hz0 hz1 hz2 rfl (by decide) (by intro c hc; simp [Value.cells] at hc; subst hc; exact notB_slice _ _ _) v pss.length vs h1 ⟨b, 0, none⟩ 1 cap [.slice ua un uc] rfl
    (fun j y hj => by
      match j, hj with
      | 0, hj => simp at hj; subst hj; exact hc
      | j + 1, hj => simp at hj) (by simp [Value.oneCell']) (by simp [notB_slice]) (by unfold maxLen; omega) (by omega) hbase
  unfold Oper.wp execOp
  simp only [ho, resolve, invoke, builtin, Sem.run_bind, Sem.run_pure, Result.andThen_ok, List.map_toArray, List.map_cons, List.map_nil, hs, hx, hrun]
  exact h v' w' ⟨_, by simpa using hown', (h2.keepK h1 hg).snoc (hu.keepK h1 hg)⟩ ((Below.refl _ _).grown hg hbase (fun k hk => (h1.1.lt k hk).1)) hg

/-- What a block that is no row of texts holds behind an append to such a row. -/
theorem Blk.keepT {w w' : World} {base g : Nat} {t : TypeId} {cs : Array Value} {v : Value} {pss : List (List Int)} (h : Blk w g t cs) (hO : OSls w base v pss) (hg : w.grownBy w' v.ownBlock) (hne : 22 ≠ t) : Blk w' g t cs := by
  obtain ⟨vs, h1, _⟩ := hO
  exact h.grown hg (fun e => own_blk_ne h1.1 h hne e.symm)

theorem Sl.keepB {w w' : World} {v : Value} {bs : List Int} (hs : Sl w v (bs.map (Value.int .u8))) {g : Nat} {t : TypeId} {cs : Array Value} (k : Blk w g t cs) (hcs : ∀ c ∈ cs.toList, notB c) (hg : w.grownBy w' (some g)) : Sl w' v (bs.map (Value.int .u8)) := by
  obtain ⟨a, cap, rfl, h1, h2, h3⟩ := hs
  refine ⟨a, cap, rfl, h1, h2, fun hp => ?_⟩
  obtain ⟨b, off, rfl, hlt, hc⟩ := h3 hp
  have hne : some b ≠ some g := by
    intro he
    injection he with he
    subst he
    have hl : 0 < bs.length := by simpa using hp
    have h0 := hc 0 (.int .u8 bs[0]) (by rw [List.getElem?_map, List.getElem?_eq_getElem hl]; rfl)
    rw [k.cell] at h0
    exact hcs _ (by have := Array.mem_of_getElem? h0; simpa using this) _ rfl
  refine ⟨b, off, rfl, Nat.lt_of_lt_of_le hlt hg.size, fun j u hu => ?_⟩
  rw [hg.cell_far ⟨b, off + j, none⟩ hlt hne]
  exact hc j u hu
theorem SlAll.keepB {w w' : World} {g : Nat} {t : TypeId} {cs : Array Value} (k : Blk w g t cs) (hcs : ∀ c ∈ cs.toList, notB c) (hg : w.grownBy w' (some g)) : ∀ {us : List Value} {ps : List (List Int)}, SlAll w us ps → SlAll w' us ps
  | [], [], _ => trivial
  | [], _ :: _, h => h.elim
  | _ :: _, [], h => h.elim
  | _ :: _, _ :: _, h => ⟨h.1.keepB k hcs hg, SlAll.keepB k hcs hg h.2⟩
theorem OSls.keepB {w w' : World} {base : Nat} {v : Value} {pss : List (List Int)} (h : OSls w base v pss) {g : Nat} {t : TypeId} {cs : Array Value} (k : Blk w g t cs) (hne : 22 ≠ t) (hcs : ∀ c ∈ cs.toList, notB c) (hg : w.grownBy w' (some g)) : OSls w' base v pss := by
  obtain ⟨vs, h1, h2⟩ := h
  have hn : v.ownBlock ≠ some g := own_blk_ne h1.1 k hne
  refine ⟨vs, ⟨h1.1.kept hg (.inr hn), fun g' hg' => ?_⟩, h2.keepB k hcs hg⟩
  obtain ⟨cur, hc1, hc2⟩ := h1.2 g' hg'
  exact ⟨cur, (hg.block g' (h1.1.lt g' hg').2 (fun e => hn (by rw [hg', e]))).trans hc1, hc2⟩

/-- The digests over some parts of a list. -/
def partsI (size : Int) (l : List (List Int)) (d : List (Int × Nat)) : List (List Int) := d.map fun p => rootI size ((l.drop p.1.toNat).take p.2)

set_option maxHeartbeats 2000000 in
/-- The greatest parts that a span does not meet, seen by a closure that keeps I. -/
theorem outsideR_any (c1 c2 c3 : Nat) (I : World → List (Int × Nat) → Prop) (hI : ∀ w w' d, I w d → Below w.heap.size w w' → I w' d) (lo hi : Int) (hlo : -1073741824 ≤ lo) (hhi : hi ≤ 1073741824)
    (hK : ∀ (a : Int) (n : Nat) (d : List (Int × Nat)) (w : World), lo ≤ a → a + n ≤ hi → 0 < n → (d.length : Int) ≤ a - lo → I w d → Calls Tryd.prog 107 #[.int .i64 a, .int .i64 n, .pointer (some ⟨c1, 0, none⟩), .pointer (some ⟨c2, 0, none⟩), .pointer (some ⟨c3, 0, none⟩)] w fun e w' => e = .returned (.tuple #[]) ∧ I w' (d ++ [(a, n)]) ∧ (∀ g cs, Blk w g 144 cs → Blk w' g 144 cs)) (f t : Int) :
    ∀ (m n : Nat), n ≤ m → ∀ (a : Int) (d : List (Int × Nat)) (w : World), lo ≤ a → a + n ≤ hi → (d.length : Int) ≤ a - lo → I w d →
    Calls Tryd.prog 106 #[.agg #[.int .i64 f, .int .i64 t], .int .i64 a, .int .i64 n, .func (.func 107) #[] #[.pointer (some ⟨c1, 0, none⟩), .pointer (some ⟨c2, 0, none⟩), .pointer (some ⟨c3, 0, none⟩)]] w fun e w' =>
      e = .returned (.tuple #[]) ∧ I w' (d ++ outs f t a n) ∧ (∀ g cs, Blk w g 144 cs → Blk w' g 144 cs) := by
  intro m
  induction m with
  | zero =>
    intro n hn a d w ha1 ha2 hdl hi0
    obtain rfl : n = 0 := by omega
    have HE := Lib.hid (show d ++ outs f t a 0 = d by rw [outs_none (.inl rfl), List.append_nil])
    have hi1 := hI _ _ _ hi0 ((Below.refl _ _).alloc (Nat.le_refl _) (.cells #[.int .i64 f, .int .i64 t] 144))
    go_enter Tryd.func106, Tryd.ntmps106
    go_wp2
    go_end0
    exact ⟨rfl, by rw [HE.out]; exact hi1, fun g cs h => h.alloc _⟩
  | succ m ih =>
    intro n hn a d w ha1 ha2 hdl hi0
    by_cases h0 : n = 0
    · subst h0
      exact ih 0 (by omega) a d w ha1 ha2 hdl hi0
    · have hnI : ¬ (n : Int) = 0 := by omega
      have hb0 : Below w.heap.size w (w.alloc (.cells #[.int .i64 f, .int .i64 t] 144)) := (Below.refl _ _).alloc (Nat.le_refl _) _
      have hi1 := hI _ _ _ hi0 hb0
      have hk0 := Blk.new w 144 #[.int .i64 f, .int .i64 t]
      have HH := Lib.hid (fun w1 => holds_any f t a n w1 (by omega) (by omega))
      have HA := Lib.hid (fun g cs (h : Blk w g 144 cs) => h.alloc (.cells #[.int .i64 f, .int .i64 t] 144))
      clear hi0 hb0
      by_cases hh : f ≤ a ∧ a + n ≤ t
      · simp only [show decide (f ≤ a ∧ a + n ≤ t) = true from decide_eq_true hh] at HH
        have HE := Lib.hid (show d ++ outs f t a n = d by rw [outs_none (.inr hh), List.append_nil])
        clear hh h0 ih
        go_enter Tryd.func106, Tryd.ntmps106
        go_wp2_with fail
        generalize w.alloc (.cells #[.int .i64 f, .int .i64 t] 144) = w1 at *
        refine (HH.out w1).mono ?_
        rintro e w2 ⟨rfl, hb2⟩
        have hi2 := hI _ _ _ hi1 hb2
        go_wp2
        go_end0
        exact ⟨rfl, by rw [HE.out]; exact hi2, fun g cs h => (HA.out g cs h).belowS hb2⟩
      · simp only [show decide (f ≤ a ∧ a + n ≤ t) = false from decide_eq_false hh] at HH
        by_cases hm : f < t ∧ f < a + n ∧ a < t
        · obtain ⟨hn2, he⟩ := outs_two (by omega) hm
          have HE := Lib.hid he
          have hx1 := half_lt n hn2
          have hx2 := half_pos n
          have HM := Lib.hid (fun w2 => holds_meets f t a n w2 true (decide_eq_true hm).symm (by omega) (by omega))
          have HS := Lib.hid (fun w2 => split_any n w2 hn2 (by omega))
          have HC1 := Lib.hid (fun d w2 => ih (half n) (by omega) a d w2 ha1 (by omega))
          have HC2 := Lib.hid (fun d w2 => ih (n - half n) (by omega) (a + half n) d w2 (by omega) (by omega))
          rw [show ((n - half n : Nat) : Int) = (n : Int) - (half n : Int) by omega] at HC2
          have HOL := Lib.hid (outs_le f t (half n) (half n) a (Nat.le_refl _))
          have hi64 : (half n : Int) ≤ 1099511627776 := by omega
          clear hm hh h0 ih he hK
          generalize half n = k at *
          go_enter Tryd.func106, Tryd.ntmps106
          go_wp2_with fail
          generalize w.alloc (.cells #[.int .i64 f, .int .i64 t] 144) = w1 at *
          refine (HH.out w1).mono ?_
          rintro e w2 ⟨rfl, hb2⟩
          have hi2 := hI _ _ _ hi1 hb2
          have hk2 := hk0.belowS hb2
          have c20 := hk2.cell 0
          have c21 := hk2.cell 1
          clear hi1 hk0
          go_wp2_with fail
          refine (HM.out w2).mono ?_
          rintro e w3 ⟨rfl, hb3⟩
          have hi3 := hI _ _ _ hi2 hb3
          have hk3 := hk2.belowS hb3
          have c30 := hk3.cell 0
          have c31 := hk3.cell 1
          clear hi2 hk2 c20 c21
          go_wp2_with fail
          refine (HS.out w3).mono ?_
          rintro e w4 ⟨rfl, rfl⟩
          go_wp2_with fail
          refine (HC1.out d w3 hdl hi3).mono ?_
          rintro e w4 ⟨rfl, hi4, hkp4⟩
          have hk4 := hkp4 _ _ hk3
          have c40 := hk4.cell 0
          have c41 := hk4.cell 1
          have HK4 := Lib.hid hkp4
          clear hkp4 hk3 c30 c31 hi3
          go_wp2_with fail
          refine (HC2.out _ w4 (by have := HOL.out; rw [List.length_append]; omega) hi4).mono ?_
          rintro e w5 ⟨rfl, hi5, hkp5⟩
          have HK5 := Lib.hid hkp5
          clear hkp5 hk4 c40 c41 hi4
          go_wp2
          go_end0
          exact ⟨rfl, by rw [HE.out, ← List.append_assoc]; exact hi5, fun g cs h => HK5.out g cs (HK4.out g cs (((HA.out g cs h).belowS hb2).belowS hb3))⟩
        · have HE := Lib.hid (show d ++ outs f t a n = d ++ [(a, n)] by rw [outs_one (by omega) hm])
          have HM := Lib.hid (fun w2 => holds_meets f t a n w2 false (decide_eq_false hm).symm (by omega) (by omega))
          have HK := Lib.hid (fun w2 (h : I w2 d) => hK a n d w2 ha1 ha2 (by omega) hdl h)
          clear hm hh h0 ih hK
          go_enter Tryd.func106, Tryd.ntmps106
          go_wp2_with fail
          generalize w.alloc (.cells #[.int .i64 f, .int .i64 t] 144) = w1 at *
          refine (HH.out w1).mono ?_
          rintro e w2 ⟨rfl, hb2⟩
          have hi2 := hI _ _ _ hi1 hb2
          have hk2 := hk0.belowS hb2
          have c20 := hk2.cell 0
          have c21 := hk2.cell 1
          clear hi1 hk0
          go_wp2_with fail
          refine (HM.out w2).mono ?_
          rintro e w3 ⟨rfl, hb3⟩
          have hi3 := hI _ _ _ hi2 hb3
          clear hi2 hk2 c20 c21
          go_wp2_with fail
          refine (HK.out w3 hi3).mono ?_
          rintro e w4 ⟨rfl, hi4, hkp⟩
          have HKP := Lib.hid hkp
          clear hkp
          go_wp2
          go_end0
          exact ⟨rfl, by rw [HE.out]; exact hi4, fun g cs h => HKP.out g cs (((HA.out g cs h).belowS hb2).belowS hb3)⟩


set_option maxRecDepth 100000 in
set_option maxHeartbeats 2000000 in
theorem range1_any (size : Int) (lv : Value) (l : List (List Int)) (a n : Nat) (vo : Value) (acc : List (List Int)) (B co cs cl : Nat) (w : World) (hlen : l.length ≤ 140737488351232) (hB : ∀ p ∈ l, IsB p) (hP : ∀ p ∈ l, p.length ≤ 140737488351232) (han : a + n ≤ l.length) (hn0 : 0 < n) (hacc : acc.length ≤ 1000000000000)
    (ko : Blk w co 23 #[vo]) (ks : Blk w cs 3 #[.int .i64 size]) (kl : Blk w cl 23 #[lv]) (hne : cl ≠ co) (hO : OSls w B vo acc) (hBs : B ≤ w.heap.size) (hBo : B ≤ co) (hs : Sls w lv l) (ht : Tabs w) :
    Calls Tryd.prog 107 #[.int .i64 a, .int .i64 n, .pointer (some ⟨co, 0, none⟩), .pointer (some ⟨cs, 0, none⟩), .pointer (some ⟨cl, 0, none⟩)] w fun e w' => e = .returned (.tuple #[]) ∧ (∃ vo', Blk w' co 23 #[vo'] ∧ OSls w' B vo' (acc ++ [rootI size ((l.drop a).take n)])) ∧ Below B w w' ∧ ∀ g t cs, g ≠ co → 22 ≠ t → Blk w g t cs → Blk w' g t cs := by
  obtain ⟨la, lc, rfl, hlc, hlm⟩ := hs.shape
  obtain ⟨oa, oc, rfl⟩ := hO.val
  obtain ⟨b, off, rfl, hbl, _⟩ := hs.at (k := 0) (by omega)
  have hst : Sls w (.slice (some ⟨b, off + a, none⟩) n (lc - a)) ((l.drop a).take n) := by
    have h1 := hs.drop a (by omega)
    rw [if_neg (by omega), Option.map_some] at h1
    exact h1.take n (by rw [List.length_drop]; omega)
  have HR0 : ∀ w1, Below w.heap.size w w1 → Calls Tryd.prog 108 #[.int .i64 size, .slice (some ⟨b, off + a, none⟩) n (lc - a)] w1 fun e w' => ∃ x, e = .returned x ∧ Sl w' x ((rootI size ((l.drop a).take n)).map (Value.int .u8)) ∧ Below w1.heap.size w1 w' := (fun w1 (h : Below w.heap.size w w1) => root_any size ((l.drop a).take n).length ((l.drop a).take n) (Nat.le_refl _) _ w1 (by rw [List.length_take, List.length_drop]; omega) (fun p hp => hB p (List.mem_of_mem_drop (List.mem_of_mem_take hp))) (fun p hp => hP p (List.mem_of_mem_drop (List.mem_of_mem_take hp))) (hst.below h (Nat.le_refl _)) (ht.below h))
  generalize rootI size ((l.drop a).take n) = R at *
  have HR := Lib.hid HR0
  clear HR0
  have HO := Lib.hid (fun w1 (h : Below w.heap.size w w1) => hO.below h)
  have HLN := Lib.hid (show acc.length + 1 ≤ 5000000000000 by omega)
  have HKo := Lib.hid ko
  have HKs := Lib.hid ks
  obtain ⟨m, hm⟩ : ∃ m : Nat, m = a + n := ⟨_, rfl⟩
  have hmw : IntKind.i64.wrap ((a : Int) + (n : Int)) = (m : Int) := by rw [IntKind.wrap_i64]; omega
  have hmI : (m : Int) ≤ (lc : Int) := by omega
  have hmI0 : (0 : Int) ≤ (m : Int) := by omega
  have ham : a ≤ m := by omega
  rw [show n = m - a by omega] at HR
  have HM := Lib.hid hm
  clear hm
  have hac : (a : Int) ≤ (lc : Int) := by omega
  have hac0 : (0 : Int) ≤ (a : Int) := by omega
  have hanI : (a : Int) + (n : Int) ≤ (lc : Int) := by omega
  have hanl : (a : Int) ≤ (a : Int) + (n : Int) := by omega
  have q1 : w.cell? ⟨co, 0, none⟩ = some (.slice oa acc.length oc) := ko.cell 0
  have q2 : w.cell? ⟨cs, 0, none⟩ = some (.int .i64 size) := ks.cell 0
  have q3 : w.cell? ⟨cl, 0, none⟩ = some (.slice (some ⟨b, off, none⟩) l.length lc) := kl.cell 0
  have l1 := ko.lt
  have lcI : ¬ lc = a := by omega
  clear ko ks kl hs hst ht hO hB hP
  go_enter Tryd.func107, Tryd.ntmps107
  go_wp2
  go_region_law (first
    | (refine step_append_text rfl (.tmp 7) (.tmp 16) rfl B _ acc rfl hO2 w1.heap.size 1 rfl (.slice xa xn xc) hc2 R hx2 HLN.out hBs2 ?_; intro l5 w5 hO5 hb5 hg5; obtain ⟨a5, c5, rfl⟩ := hO5.val; have HG := Lib.hid hg5; have k5 := k2.keepT hO2 hg5 (by decide); have q5 : w5.cell? ⟨co, 0, none⟩ = some (.slice oa acc.length oc) := k5.cell 0; have f5 : w5.frozen? ⟨co, 0, none⟩ = false := k5.frozen 0)
    | (go_simp; go_at_call 108; refine (HR.out _ (by first | exact Below.refl _ _ | exact (Below.refl _ _).drew)).mono ?_; rintro e w1 ⟨x1, rfl, hx1, hb1⟩; obtain ⟨xa, xn, xc, rfl⟩ := hx1.val; have hb1 : Below w.heap.size w w1 := ⟨hb1.os, hb1.tape, hb1.output, hb1.size, hb1.block⟩; have k1 := HKo.out.belowS hb1; have q7 : w1.cell? ⟨co, 0, none⟩ = some (.slice oa acc.length oc) := k1.cell 0; have hbA : Below w1.heap.size w1 (w1.alloc (.cells #[.slice xa xn xc] 22)) := (Below.refl _ _).alloc (Nat.le_refl _) _; have k2 := k1.belowS hbA; have q8 : (w1.alloc (.cells #[.slice xa xn xc] 22)).cell? ⟨co, 0, none⟩ = some (.slice oa acc.length oc) := k2.cell 0; have hO2 := (HO.out _ hb1).below hbA; have hx2 := hx1.below hbA (Nat.le_refl _); have hc2 := (Blk.new w1 22 #[.slice xa xn xc]).cell 0; have hBs2 : B ≤ (w1.alloc (.cells #[.slice xa xn xc] 22)).heap.size := Nat.le_trans hBs (Nat.le_trans hb1.size hbA.size)))
  all_goals
    go_end0
    have hO5 : OSls w5 B (.slice a5 (acc.length + 1) c5) (acc ++ [R]) := by have := hO5; rwa [List.length_append, List.length_singleton] at this
    have hgS : w5.grownBy (w5.setCell ⟨co, 0, none⟩ (.slice a5 (acc.length + 1) c5)) (some co) := only_setCell (World.grownBy.refl _ _) (.inl rfl) _
    refine ⟨rfl, ⟨_, k5.set_ 0 _, hO5.keepB k5 (by decide) (by intro c hc; simp at hc; subst hc; exact notB_slice _ _ _) hgS⟩, ?_, fun g t cs hg ht hk => ?_⟩
    · exact (((hb1.mono hBs).alloc (Nat.le_trans hBs hb1.size) _).trans hb5).setCell hBo _
    · exact (((hk.belowS hb1).belowS hbA).keepT hO2 HG.out ht).far hg _

theorem partsI_snoc (size : Int) (l : List (List Int)) (d : List (Int × Nat)) (a n : Nat) : partsI size l (d ++ [((a : Int), n)]) = partsI size l d ++ [rootI size ((l.drop a).take n)] := by
  unfold partsI; rw [List.map_append]; simp

set_option maxRecDepth 100000 in
set_option maxHeartbeats 2000000 in
theorem range_any (size : Int) (lv : Value) (l : List (List Int)) (f t : Int) (w : World) (hlen : l.length ≤ 1073741824) (hB : ∀ p ∈ l, IsB p) (hP : ∀ p ∈ l, p.length ≤ 140737488351232) (hs : Sls w lv l) (ht : Tabs w) :
    Calls Tryd.prog 63 #[.int .i64 size, lv, .int .i64 f, .int .i64 t] w fun e w' => ∃ x, e = .returned x ∧ Sls w' x (if 0 ≤ f ∧ f ≤ t ∧ t ≤ l.length then partsI size l (outs f t 0 l.length) else []) ∧ Below w.heap.size w w' := by
  obtain ⟨la, lc, rfl, hlc, hlm⟩ := hs.shape
  have HI := Lib.hid (fun w1 => inB_any f t l.length w1 (by omega))
  have hb0 : Below w.heap.size w (((w.alloc (.cells #[.int .i64 size] 3)).alloc (.cells #[.slice la l.length lc] 23)).alloc (.cells #[.int .i64 f, .int .i64 t] 144)) := (((Below.refl _ _).alloc (Nat.le_refl _) _).alloc (by simp) _).alloc (by simp; omega) _
  have k1 : Blk (((w.alloc (.cells #[.int .i64 size] 3)).alloc (.cells #[.slice la l.length lc] 23)).alloc (.cells #[.int .i64 f, .int .i64 t] 144)) w.heap.size 3 #[.int .i64 size] := ((Blk.new w _ _).alloc _).alloc _
  have k2 : Blk (((w.alloc (.cells #[.int .i64 size] 3)).alloc (.cells #[.slice la l.length lc] 23)).alloc (.cells #[.int .i64 f, .int .i64 t] 144)) (w.heap.size + 1) 23 #[.slice la l.length lc] := by
    have := (Blk.new (w.alloc (.cells #[.int .i64 size] 3)) 23 #[.slice la l.length lc]).alloc (.cells #[.int .i64 f, .int .i64 t] 144)
    simpa using this
  have k3 : Blk (((w.alloc (.cells #[.int .i64 size] 3)).alloc (.cells #[.slice la l.length lc] 23)).alloc (.cells #[.int .i64 f, .int .i64 t] 144)) (w.heap.size + 1 + 1) 144 #[.int .i64 f, .int .i64 t] := by
    have := Blk.new ((w.alloc (.cells #[.int .i64 size] 3)).alloc (.cells #[.slice la l.length lc] 23)) 144 #[.int .i64 f, .int .i64 t]
    simpa using this
  have HS := Lib.hid (fun v (h : Below w.heap.size w v) => hs.below h (Nat.le_refl _))
  have HT := Lib.hid (fun v (h : Below w.heap.size w v) => ht.below h)
  generalize hw3 : (((w.alloc (.cells #[.int .i64 size] 3)).alloc (.cells #[.slice la l.length lc] 23)).alloc (.cells #[.int .i64 f, .int .i64 t] 144)) = w3 at *
  have q2 : w3.cell? ⟨w.heap.size + 1, 0, none⟩ = some (.slice la l.length lc) := k2.cell 0
  have q30 : w3.cell? ⟨w.heap.size + 1 + 1, 0, none⟩ = some (.int .i64 f) := k3.cell 0
  have q31 : w3.cell? ⟨w.heap.size + 1 + 1, 1, none⟩ = some (.int .i64 t) := k3.cell 1
  by_cases hin : 0 ≤ f ∧ f ≤ t ∧ t ≤ l.length
  · rw [if_pos hin]
    simp only [decide_eq_true hin] at HI
    clear hs ht hin
    go_enter Tryd.func63, Tryd.ntmps63
    go_wp2_with fail
    refine (HI.out w3).mono ?_
    rintro e w4 ⟨rfl, hb4⟩
    have k1 := k1.belowS hb4
    have k2 := k2.belowS hb4
    have k3 := k3.belowS hb4
    have hb4 := below_trans2 hb0 hb4
    have hne : w.heap.size + 1 ≠ w4.heap.size := by have := k2.lt; omega
    clear q2 q30 q31 hb0
    have hbA : Below w4.heap.size w4 (w4.alloc (.cells #[.slice none 0 0] 23)) := (Below.refl _ _).alloc (Nat.le_refl _) _
    have k1 := k1.belowS hbA
    have k2 := k2.belowS hbA
    have k3 := k3.belowS hbA
    have k4 := Blk.new w4 23 #[.slice none 0 0]
    have hb5 := below_trans2 hb4 hbA
    have q2 : (w4.alloc (.cells #[.slice none 0 0] 23)).cell? ⟨w.heap.size + 1, 0, none⟩ = some (.slice la l.length lc) := k2.cell 0
    have q30 : (w4.alloc (.cells #[.slice none 0 0] 23)).cell? ⟨w.heap.size + 1 + 1, 0, none⟩ = some (.int .i64 f) := k3.cell 0
    have q31 : (w4.alloc (.cells #[.slice none 0 0] 23)).cell? ⟨w.heap.size + 1 + 1, 1, none⟩ = some (.int .i64 t) := k3.cell 1
    go_wp2_with fail
    generalize (w4.alloc (.cells #[.slice none 0 0] 23)) = w5 at *
    refine (outsideR_any w4.heap.size w.heap.size (w.heap.size + 1) (fun v d => Below w.heap.size w v ∧ Blk v w.heap.size 3 #[.int .i64 size] ∧ Blk v (w.heap.size + 1) 23 #[.slice la l.length lc] ∧ ∃ vo, Blk v w4.heap.size 23 #[vo] ∧ OSls v w.heap.size vo (partsI size l d)) ?cI 0 l.length (by omega) (by omega) ?cK f t l.length l.length (Nat.le_refl _) 0 [] w5 (by omega) (by omega) (by simp) ⟨hb5, k1, k2, _, k4, OSls.nil _ _⟩).mono ?_
    case cI => exact fun v v' d ⟨h1, h2, h3, vo, h4, h5⟩ hb => ⟨below_trans2 h1 hb, h2.belowS hb, h3.belowS hb, vo, h4.belowS hb, h5.below hb⟩
    case cK =>
      intro a n d v ha1 ha2 hn hd ⟨h1, h2, h3, vo, h4, h5⟩
      obtain ⟨a, rfl⟩ : ∃ b : Nat, a = b := ⟨a.toNat, by omega⟩
      refine (range1_any size (.slice la l.length lc) l a n vo (partsI size l d) w.heap.size w4.heap.size w.heap.size (w.heap.size + 1) v (by omega) hB hP (by omega) hn (by unfold partsI; rw [List.length_map]; omega) h4 h2 h3 hne h5 h1.size hb4.size (HS.out _ h1) (HT.out _ h1)).mono ?_
      rintro e v' ⟨rfl, ⟨vo', h6, h7⟩, h8, h9⟩
      refine ⟨rfl, ⟨h1.trans h8, h9 _ _ _ ?_ (by decide) h2, h9 _ _ _ hne (by decide) h3, vo', h6, by rw [partsI_snoc]; exact h7⟩, fun g cs hg => h9 _ _ _ ?_ (by decide) hg⟩
      · exact Blk.ne_ h2 h4 (by decide)
      · exact Blk.ne_ hg h4 (by decide)
    rintro e w6 ⟨rfl, ⟨hb6, _, _, vo, k6, hO⟩, _⟩
    rw [List.nil_append] at hO
    have q6 : w6.cell? ⟨w4.heap.size, 0, none⟩ = some vo := k6.cell 0
    obtain ⟨va, vc, rfl⟩ := hO.val
    clear k1 k2 k3 k4 q2 q30 q31 k6
    go_wp2
    go_ret
    exact ⟨_, rfl, hO.sls, hb6⟩
  · rw [if_neg hin]
    simp only [decide_eq_false hin] at HI
    clear hs ht hin
    go_enter Tryd.func63, Tryd.ntmps63
    go_wp2_with fail
    refine (HI.out w3).mono ?_
    rintro e w4 ⟨rfl, hb4⟩
    have hb4 := below_trans2 hb0 hb4
    go_wp2
    go_ret
    exact ⟨_, rfl, ⟨[], Sl.nil _, rfl, fun i u bs hu _ => by simp at hu⟩, hb4⟩

end Go.Proofs.YtililoojjfcfgaaDoor
