/- The reference's Range: what shows a range. Conditions: the digests are bytes, the range lies in them. -/
import Derived.Test.YtililoojjfcfgaaDoorFcI
import Derived.Test.YtililoojjfcfgaaDoorFcJ
import Derived.Test.YtililoojjfcfgaaDoorFcA
namespace Go.Proofs.YtililoojjfcfgaaDoor
open Go.RowKit
set_option linter.unusedVariables false

theorem SlAll.of_at {w : World} : ∀ {us : List Value} {ps : List (List Int)}, us.length = ps.length → (∀ (i : Nat) (u : Value) (p : List Int), us[i]? = some u → ps[i]? = some p → Sl w u (p.map (Value.int .u8))) → SlAll w us ps
  | [], [], _, _ => trivial
  | [], _ :: _, h, _ => by simp at h
  | _ :: _, [], h, _ => by simp at h
  | u :: us, p :: ps, h, ha => ⟨ha 0 u p rfl rfl, SlAll.of_at (by simpa using h) (fun i u p hu hp => ha (i + 1) u p (by simpa using hu) (by simpa using hp))⟩
theorem SlAll.append {w : World} : ∀ {us vs : List Value} {ps qs : List (List Int)}, SlAll w us ps → SlAll w vs qs → SlAll w (us ++ vs) (ps ++ qs)
  | [], _, [], _, _, h => h
  | [], _, _ :: _, _, h, _ => h.elim
  | _ :: _, _, [], _, h, _ => h.elim
  | _ :: _, _, _ :: _, _, h, k => ⟨h.1, SlAll.append h.2 k⟩
theorem SlAll.notBs {w : World} : ∀ {us : List Value} {ps : List (List Int)}, SlAll w us ps → (∀ c ∈ us, _root_.Go.Proofs.YtililoojjfcfgaaDoor.notB c) ∧ (∀ c ∈ us, c.oneCell' = true)
  | [], [], _ => ⟨(fun c hc => by cases hc), (fun c hc => by cases hc)⟩
  | [], _ :: _, h => h.elim
  | _ :: _, [], h => h.elim
  | u :: us, p :: ps, h => by
    obtain ⟨h1, h2⟩ := SlAll.notBs h.2
    obtain ⟨a, n, c, rfl⟩ := h.1.val
    refine ⟨fun x hx => ?_, fun x hx => ?_⟩
    · rcases List.mem_cons.1 hx with rfl | hx
      · exact notB_slice _ _ _
      · exact h1 x hx
    · rcases List.mem_cons.1 hx with rfl | hx
      · rfl
      · exact h2 x hx

/-- 'append(own, texts...)'. -/
theorem wpList_append_sls {w : World} {ops : Array Oper} {rest : List Oper} {o : Oper} {a : Act} {Q : Exit → Act → World → Prop} (hgd : o.guard = none) (s x : Operand)
    (ho : o.op = .call { callee := .builtin .append, args := #[s, x], argTypes := #[23, 23] })
    (base : Nat) (v : Value) (pss : List (List Int)) (hs : a.eval s = v) (hown : OSls w base v pss)
    (u : Value) (qss : List (List Int)) (hx : a.eval x = u) (hu : Sls w u qss)
    (h63 : pss.length + qss.length ≤ 5000000000000) (hbase : base ≤ w.heap.size)
    (h : ∀ v' w', OSls w' base v' (pss ++ qss) → Below base w w' → wpList Tryd.prog ops Q rest (a.put o.dst v') w') : wpList Tryd.prog ops Q (o :: rest) a w := by
  obtain ⟨vs, h1, h2⟩ := hown
  obtain ⟨us, hsl, hlen, hat⟩ := hu
  have hall := SlAll.of_at hlen hat
  obtain ⟨i0, hi, hz0, hz1, hz2⟩ := info_parts infoT
  obtain ⟨ad, cap, rfl, hlc, hcm, hc⟩ := hsl
  cases ad with
  | some ad =>
    obtain ⟨v', w', hrun, hown', hg⟩ := run_append_ownK (P := Tryd.prog) w base 23 o.type 22 i0 (.slice none 0 0) 1 24 Tryd.underlying23 hi hz0 hz1 hz2 rfl (by decide) (by intro c hc; simp [Value.cells] at hc; subst hc; exact notB_slice _ _ _) v pss.length vs h1 ad us.length cap us (by omega)
      (fun j y hj => by
        have hp : 0 < us.length := by have := (List.getElem?_eq_some_iff.1 hj).1; omega
        obtain ⟨b, off, e, hlt, hcell⟩ := hc hp
        cases e
        rw [add_plain0]
        exact hcell j y hj) hall.notBs.2 hall.notBs.1 (by unfold maxLen; omega) (by omega) hbase
    refine wpList_plain hgd fun K hK => ?_
    unfold Oper.wp
    simp [execOp, ho, resolve, invoke, builtin, hs, hx, hrun, Result.andThen]
    refine hK _ _ (h v' w' ⟨_, by rw [List.length_append, ← hlen]; exact hown', (h2.keepK h1 hg).append (hall.keepK h1 hg)⟩ ?_)
    exact (Below.refl _ _).grown hg hbase (fun k hk => (h1.1.lt k hk).1)
  | none =>
    have hl0 : us = [] := by
      cases us with
      | nil => rfl
      | cons y ys => obtain ⟨b, off, e, _⟩ := hc (by simp); cases e
    subst hl0
    obtain rfl : qss = [] := List.length_eq_zero_iff.1 (by simpa using hlen.symm)
    have hrun : (Builtin.append_ #[23, 23] o.type #[v, .slice none 0 cap]).run Tryd.prog w = .ok v w := by
      rcases h1.1.2 with ⟨rfl, e⟩ | ⟨g, cap', cur, rfl, _, _, hnc, _⟩
      · simp [Builtin.append_, run_underlying Tryd.underlying23, sizeOf, typeInfo, hi, Builtin.lenOf, Builtin.firstCells]
      · simp [Builtin.append_, run_underlying Tryd.underlying23, sizeOf, typeInfo, hi, Builtin.lenOf, Builtin.firstCells, hnc, storeCells]
    refine wpList_plain hgd fun K hK => ?_
    unfold Oper.wp
    simp [execOp, ho, resolve, invoke, builtin, hs, hx, hrun, Result.andThen]
    exact hK _ _ (h v w ⟨vs, by simpa using h1, by simpa using h2⟩ (Below.refl _ _))

/-- The reference's Range, at these digests. -/
def RefRange (size : Int) (l : List (List Int)) (v : Value) (f t : Int) (w : World) : Prop :=
  Calls Tryd.prog 65 #[.int .i64 size, v, .int .i64 f, .int .i64 t] w fun e w' => ∃ x, e = .returned x ∧ OSls w' w.heap.size x (rngI size l f t) ∧ Below w.heap.size w w'

set_option maxRecDepth 100000 in
set_option maxHeartbeats 1000000 in
theorem refPart_any (size : Int) (l : List (List Int)) (v : Value) (f t : Int) (w : World) (hf : -9223372036854775808 ≤ f ∧ f ≤ 9223372036854775807) (ht : -9223372036854775808 ≤ t ∧ t ≤ 9223372036854775807) (hs : Sls w v l)
    (HR : ∀ f' t' : Int, 0 ≤ f' → f' ≤ t' → t' ≤ l.length → RefRange size l v f' t' w) :
    Calls Tryd.prog 112 #[.int .i64 size, v, .int .i64 f, .int .i64 t] w fun e w' => ∃ x, e = .returned x ∧ OSls w' w.heap.size x (rngI size l (clampI f l.length) (max (clampI f l.length) (clampI t l.length))) ∧ Below w.heap.size w w' := by
  obtain ⟨a, c, rfl, hc, hm⟩ := hs.shape
  have HQ := Lib.hid (fun (f' t' : Int) (e1 : f' = clampI f l.length) (e2 : t' = max (clampI f l.length) (clampI t l.length)) => (show Calls Tryd.prog 65 #[.int .i64 size, .slice a l.length c, .int .i64 f', .int .i64 t'] w fun e w' => ∃ x, e = .returned x ∧ OSls w' w.heap.size x (rngI size l (clampI f l.length) (max (clampI f l.length) (clampI t l.length))) ∧ Below w.heap.size w w' from by
    have := HR f' t' (by rw [e1]; unfold clampI; omega) (by rw [e1, e2]; omega) (by rw [e2]; unfold clampI; omega)
    rw [e1, e2] at this ⊢
    exact this))
  clear HR hs
  go_enter Tryd.func112, Tryd.ntmps112
  go_wp2_with fail
  all_goals
    refine (HQ.out _ _ (by unfold clampI; omega) (by unfold clampI; omega)).mono ?_
    rintro e w1 ⟨x, rfl, hx, hb⟩
    have HX := Lib.hid hx
    have HB := Lib.hid hb
    clear hx hb
    go_wp2
    go_ret
    exact ⟨_, rfl, HX.out, HB.out⟩

theorem OSls.litA {w : World} {u : Value} {p : List Int} (hu : Sl w u (p.map (Value.int .u8))) : OSls (w.alloc (.cells #[u] 22)) w.heap.size (.slice (some ⟨w.heap.size, 0, none⟩) 1 1) [p] := by
  obtain ⟨ua, un, uc, rfl⟩ := hu.val
  have hal : Below w.heap.size w (w.alloc (.cells #[.slice ua un uc] 22)) := (Below.refl _ _).alloc (Nat.le_refl _) _
  refine ⟨[.slice ua un uc], ⟨World.ownsRow_lit w #[.slice ua un uc] 1 (Nat.le_refl _) (by decide) rfl, fun g hg => ?_⟩, hu.below hal (Nat.le_refl _), trivial⟩
  have : w.heap.size = g := by simpa [Value.ownBlock] using hg
  subst this
  exact ⟨_, heap_alloc_new w _, by intro c hc; simp at hc; subst hc; exact notB_slice _ _ _⟩
theorem OSls.low {w : World} {b0 b1 : Nat} {v : Value} {pss : List (List Int)} (h : OSls w b1 v pss) (hb : b0 ≤ b1) : OSls w b0 v pss := by
  obtain ⟨vs, ⟨h1, h3⟩, h2⟩ := h
  refine ⟨vs, ⟨⟨h1.1, h1.2.imp id ?_⟩, h3⟩, h2⟩
  rintro ⟨g, cap, cur, hv, hg, hr⟩
  exact ⟨g, cap, cur, hv, by omega, hr⟩
theorem rngI_len (size : Int) (l : List (List Int)) (f t : Int) : (rngI size l f t).length ≤ l.length := by
  unfold rngI partsI
  rw [List.length_map]
  exact outs_le f t l.length l.length 0 (Nat.le_refl _)

set_option maxRecDepth 100000 in
set_option maxHeartbeats 1000000 in
theorem refRange_any (size : Int) : ∀ (m : Nat) (l : List (List Int)), l.length ≤ m → ∀ (v : Value) (f t : Int) (w : World), l.length ≤ 1073741824 → (∀ p ∈ l, IsB p) → (∀ p ∈ l, p.length ≤ 140737488351232) → Sls w v l → 0 ≤ f → f ≤ t → t ≤ l.length → RefRange size l v f t w := by
  intro m
  induction m with
  | zero =>
    intro l hl v f t w hlen hB hP hs h0 h1 h2
    have hl0 : l.length = 0 := by omega
    have HE := Lib.hid (rngI_none size l f t (.inl hl0))
    obtain ⟨a, c, rfl, hc, hm⟩ := hs.shape
    obtain rfl : f = 0 := by omega
    obtain rfl : t = 0 := by omega
    rw [hl0]
    unfold RefRange
    clear hs hl
    go_enter Tryd.func65, Tryd.ntmps65
    go_wp2
    go_ret
    exact ⟨_, rfl, by rw [HE.out]; exact OSls.nil _ _, Below.refl _ _⟩
  | succ m ih =>
    intro l hl v f t w hlen hB hP hs h0 h1 h2
    by_cases hl0 : l.length = 0
    · exact ih l (by omega) v f t w hlen hB hP hs h0 h1 h2
    · have hlb : ((l.length : Int) == 0) = false := beq_eq_false_iff_ne.2 (by omega)
      by_cases hft : t = f
      · subst hft
        have HE := Lib.hid (rngI_one size l t t (by omega) (by omega) (by omega))
        have HR := Lib.hid (refRoot_any size l.length l (Nat.le_refl _) v w hlen hB hP hs)
        generalize rootI size l = R at *
        obtain ⟨a, c, rfl, hc, hm⟩ := hs.shape
        have heq : (t == t) = true := by simp
        unfold RefRange
        clear hs hl ih hB hP
        go_enter Tryd.func65, Tryd.ntmps65
        go_wp2_with fail
        refine HR.out.mono ?_
        rintro e w1 ⟨x, rfl, hx, hb⟩
        have HX := Lib.hid (OSls.litA hx)
        have HB := Lib.hid hb
        obtain ⟨xa, xn, xc, rfl⟩ := hx.val
        clear hx hb
        go_wp2
        go_ret
        exact ⟨_, rfl, by rw [HE.out]; exact HX.out.low HB.out.size, HB.out.alloc HB.out.size _⟩
      · have hne : (t == f) = false := beq_eq_false_iff_ne.2 hft
        have g1 : ¬ t ≤ 0 := by omega
        have g2 : ¬ (l.length : Int) ≤ f := by omega
        by_cases hall : f = 0 ∧ t = l.length
        · obtain ⟨rfl, rfl⟩ := hall
          have HE := Lib.hid (rngI_none size l 0 l.length (.inr (by omega)))
          have e2 : ((l.length : Int) == (l.length : Int)) = true := by simp
          obtain ⟨a, c, rfl, hc, hm⟩ := hs.shape
          unfold RefRange
          clear hs hl ih hB hP
          go_enter Tryd.func65, Tryd.ntmps65
          go_wp2
          go_ret
          exact ⟨_, rfl, by rw [HE.out]; exact OSls.nil _ _, Below.refl _ _⟩
        · obtain ⟨k2, HE⟩ := rngI_two size l f t (by omega) (by omega)
          have hk1 := half_lt l.length k2
          have hk2 := half_pos l.length
          obtain ⟨a, c, rfl, hc, hm⟩ := hs.shape
          obtain ⟨b, off, rfl, hbl, _⟩ := hs.at (k := 0) (by omega)
          have hst := hs.take (half l.length) (by omega)
          have hsd := hs.drop (half l.length) (by omega)
          have hcne : ¬ c = half l.length := by omega
          rw [if_neg hcne, Option.map_some] at hsd
          have hl1 : (l.take (half l.length)).length = half l.length := by rw [List.length_take]; omega
          have hl2 : (l.drop (half l.length)).length = l.length - half l.length := by rw [List.length_drop]
          have HT := Lib.hid (fun w1 (h : Below w.heap.size w w1) => refPart_any size (l.take (half l.length)) _ f t w1 (by omega) (by omega) (hst.below h (Nat.le_refl _)) (fun f' t' q1 q2 q3 => ih (l.take (half l.length)) (by omega) _ f' t' w1 (by omega) (fun p hp => hB p (List.mem_of_mem_take hp)) (fun p hp => hP p (List.mem_of_mem_take hp)) (hst.below h (Nat.le_refl _)) q1 q2 q3))
          have HD := Lib.hid (fun w1 (h : Below w.heap.size w w1) => refPart_any size (l.drop (half l.length)) _ (f - half l.length) (t - half l.length) w1 (by omega) (by omega) (hsd.below h (Nat.le_refl _)) (fun f' t' q1 q2 q3 => ih (l.drop (half l.length)) (by omega) _ f' t' w1 (by omega) (fun p hp => hB p (List.mem_of_mem_drop hp)) (fun p hp => hP p (List.mem_of_mem_drop hp)) (hsd.below h (Nat.le_refl _)) q1 q2 q3))
          rw [hl1] at HT
          rw [hl2] at HD
          have hA := rngI_len size (l.take (half l.length)) (clampI f (half l.length)) (max (clampI f (half l.length)) (clampI t (half l.length)))
          have hD := rngI_len size (l.drop (half l.length)) (clampI (f - half l.length) (l.length - half l.length)) (max (clampI (f - half l.length) (l.length - half l.length)) (clampI (t - half l.length) (l.length - half l.length)))
          rw [hl1] at hA
          rw [hl2] at hD
          have HE := Lib.hid HE
          have HSP := Lib.hid (refSplit_any l.length w k2 hlen)
          generalize rngI size (l.take (half l.length)) (clampI f (half l.length)) (max (clampI f (half l.length)) (clampI t (half l.length))) = A at *
          generalize rngI size (l.drop (half l.length)) (clampI (f - half l.length) (l.length - half l.length)) (max (clampI (f - half l.length) (l.length - half l.length)) (clampI (t - half l.length) (l.length - half l.length))) = D at *
          generalize half l.length = k at *
          have hkI : (k : Int) ≤ (l.length : Int) := by omega
          have hkI0 : (0 : Int) ≤ (k : Int) := by omega
          have hkc : k ≤ c := by omega
          have hkcI : (k : Int) ≤ (c : Int) := by omega
          have HLN := Lib.hid (And.intro hA hD)
          have HLL := Lib.hid (And.intro hlen hk1)
          unfold RefRange
          clear hst hsd hl1 hl2 ih hB hP hs hA hD hl hcne
          by_cases hf0 : f = 0
          · subst hf0
            simp only [Int.zero_sub] at HD
            have htn : (t == (l.length : Int)) = false := beq_eq_false_iff_ne.2 (by omega)
            clear hall
            go_enter Tryd.func65, Tryd.ntmps65
            go_wp2_with fail
            refine HSP.out.mono ?_
            rintro e w1 ⟨rfl, rfl⟩
            go_wp2_with fail
            refine (HT.out w (Below.refl _ _)).mono ?_
            rintro e w2 ⟨x, rfl, hx, hb⟩
            have HX := Lib.hid hx.sls
            have HB := Lib.hid hb
            obtain ⟨xa, xc, rfl⟩ := hx.val
            clear hx hb
            go_wp2_with (at_builtin; refine wpList_append_sls rfl _ _ rfl w.heap.size (.slice none 0 0) [] rfl (OSls.nil _ _) _ A rfl HX.out (by have := HLN.out.1; have := HLL.out; simp; omega) HB.out.size ?_)
            intro v3 w3 h3 hb3
            have hb3w := HB.out.trans hb3
            have HD3 := Lib.hid (HD.out w3 hb3w)
            have H3 := Lib.hid h3
            have HB3 := Lib.hid hb3w
            obtain ⟨va, vc, rfl⟩ := h3.val
            clear h3 hb3 hb3w HD HT
            go_wp2_with fail
            refine HD3.out.mono ?_
            rintro e w4 ⟨y, rfl, hy, hb4⟩
            have HY := Lib.hid hy.sls
            have H4 := Lib.hid (H3.out.below hb4)
            have HB4 := Lib.hid (below_trans2 HB3.out hb4)
            obtain ⟨ya, yc, rfl⟩ := hy.val
            clear hy hb4 HD3 H3 HB3
            go_wp2_with (at_builtin; refine wpList_append_sls rfl _ _ rfl w.heap.size _ A rfl H4.out _ D rfl HY.out (by have := HLN.out; have := HLL.out; omega) HB4.out.size ?_)
            intro v5 w5 h5 hb5
            have H5 := Lib.hid h5
            have HB5 := Lib.hid (HB4.out.trans hb5)
            obtain ⟨wa, wc, rfl⟩ := h5.val
            clear h5 hb5
            go_wp2
            go_ret
            exact ⟨_, rfl, by rw [HE.out]; exact H5.out, HB5.out⟩
          · have hf1 : (f == 0) = false := beq_eq_false_iff_ne.2 hf0
            clear hall
            go_enter Tryd.func65, Tryd.ntmps65
            go_wp2_with fail
            refine HSP.out.mono ?_
            rintro e w1 ⟨rfl, rfl⟩
            go_wp2_with fail
            refine (HT.out w (Below.refl _ _)).mono ?_
            rintro e w2 ⟨x, rfl, hx, hb⟩
            have HX := Lib.hid hx.sls
            have HB := Lib.hid hb
            obtain ⟨xa, xc, rfl⟩ := hx.val
            clear hx hb
            go_wp2_with (at_builtin; refine wpList_append_sls rfl _ _ rfl w.heap.size (.slice none 0 0) [] rfl (OSls.nil _ _) _ A rfl HX.out (by have := HLN.out.1; have := HLL.out; simp; omega) HB.out.size ?_)
            intro v3 w3 h3 hb3
            have hb3w := HB.out.trans hb3
            have HD3 := Lib.hid (HD.out w3 hb3w)
            have H3 := Lib.hid h3
            have HB3 := Lib.hid hb3w
            obtain ⟨va, vc, rfl⟩ := h3.val
            clear h3 hb3 hb3w HD HT
            go_wp2_with fail
            refine HD3.out.mono ?_
            rintro e w4 ⟨y, rfl, hy, hb4⟩
            have HY := Lib.hid hy.sls
            have H4 := Lib.hid (H3.out.below hb4)
            have HB4 := Lib.hid (below_trans2 HB3.out hb4)
            obtain ⟨ya, yc, rfl⟩ := hy.val
            clear hy hb4 HD3 H3 HB3
            go_wp2_with (at_builtin; refine wpList_append_sls rfl _ _ rfl w.heap.size _ A rfl H4.out _ D rfl HY.out (by have := HLN.out; have := HLL.out; omega) HB4.out.size ?_)
            intro v5 w5 h5 hb5
            have H5 := Lib.hid h5
            have HB5 := Lib.hid (HB4.out.trans hb5)
            obtain ⟨wa, wc, rfl⟩ := h5.val
            clear h5 hb5
            go_wp2
            go_ret
            exact ⟨_, rfl, by rw [HE.out]; exact H5.out, HB5.out⟩

end Go.Proofs.YtililoojjfcfgaaDoor
