
/- The walk of the law SeglogCrashes. Conditions: the tables of SHA are laid. -/
import Derived.Test.YtgfkejecigefbaaDoorSx2
namespace Go.Proofs.YtgfkejecigefbaaDoor
open Go.RowKit
set_option linter.unusedVariables false

/-- An append of a slice that is read, where a guard lets it. -/
theorem run_append_slS {P : Program} (w : World) (t ty : TypeId) (base : Nat) (e : TypeId) (i : TypeInfo) (z : Value) (bytes : Nat) (ht : P.underlying t = some (.slice e)) (hi : P.info? e = some i) (hz : i.zero = some z)
    (hsize : i.size = 1) (hby : i.bytes = bytes) (hzs : z.cells.size = 1)
    (v : Value) (n : Nat) (xs : List Value) (hown : w.ownsRow base e 1 v n xs)
    (u : Value) (ys : List Value) (hsl : Sl w u ys) (h1 : ∀ u ∈ ys, u.oneCell' = true)
    (h63 : n + ys.length ≤ maxLen) (hbytes : (n + ys.length) * bytes ≤ 140737488355328) (hbase : base ≤ w.heap.size) :
    ∃ v' w', (Builtin.append_ #[t, t] ty #[v, u]).run P w = .ok v' w' ∧ w'.ownsRow base e 1 v' (n + ys.length) (xs ++ ys) ∧ w.grownBy w' v.ownBlock := by
  obtain ⟨ad, cap, rfl, hlc, hcm, hc⟩ := hsl
  cases ad with
  | some ad =>
    obtain ⟨v', w', h2, h3, h4, _⟩ := run_append_own (P := P) w base t ty e i z 1 bytes ht hi hz hsize hby hzs (by decide) v n xs hown ad ys.length cap ys (by omega) (by
      intro j u hu
      have hj : 0 < ys.length := by
        rcases Nat.lt_or_ge j ys.length with hlt | hge
        · omega
        · rw [List.getElem?_eq_none hge] at hu; cases hu
      obtain ⟨b, off, hab, hlt, hcell⟩ := hc hj
      cases hab
      rw [add_plain0]
      exact hcell j u hu) h1 h63 hbytes hbase
    exact ⟨v', w', h2, h3, h4⟩
  | none =>
    have hl0 : ys.length = 0 := by
      rcases Nat.eq_zero_or_pos ys.length with h0 | h0
      · exact h0
      · obtain ⟨b, off, hab, _⟩ := hc h0; cases hab
    obtain rfl : ys = [] := List.length_eq_zero_iff.1 hl0
    refine ⟨v, w, ?_, by simpa using hown, ⟨rfl, rfl, rfl, Nat.le_refl _, fun _ _ _ => rfl⟩⟩
    rcases hown.2 with ⟨rfl, rfl⟩ | ⟨g, cap', cur, rfl, _, _, hnc, _⟩
    · simp [Builtin.append_, run_underlying ht, sizeOf, typeInfo, hi, Builtin.lenOf, Builtin.firstCells]
    · simp [Builtin.append_, run_underlying ht, sizeOf, typeInfo, hi, Builtin.lenOf, Builtin.firstCells, hnc, storeCells]
theorem wpList_append_slWS {P : Program} {w : World} {ops : Array Oper} {rest : List Oper} {o : Oper} {a : Act} {Q : Exit → Act → World → Prop} (hw : Region.wanted o (yielded ops a.tmps) = true) (s x : Operand) (t : TypeId)
    (ho : o.op = .call { callee := .builtin .append, args := #[s, x], argTypes := #[t, t] })
    (base : Nat) (e : TypeId) (i : TypeInfo) (z : Value) (bytes : Nat) (ht : P.underlying t = some (.slice e)) (hi : P.info? e = some i) (hz : i.zero = some z)
    (hsize : i.size = 1) (hby : i.bytes = bytes) (hzs : z.cells.size = 1)
    (v : Value) (n : Nat) (xs : List Value) (hs : a.eval s = v) (hown : w.ownsRow base e 1 v n xs)
    (u : Value) (ys : List Value) (hx : a.eval x = u) (hsl : Sl w u ys) (h1 : ∀ u ∈ ys, u.oneCell' = true)
    (h63 : n + ys.length ≤ maxLen) (hbytes : (n + ys.length) * bytes ≤ 140737488355328) (hbase : base ≤ w.heap.size)
    (h : ∀ v' w', w'.ownsRow base e 1 v' (n + ys.length) (xs ++ ys) → w.grownBy w' v.ownBlock → wpList P ops Q rest (a.put o.dst v') w') : wpList P ops Q (o :: rest) a w := by
  obtain ⟨v', w', hrun, h2, h3⟩ := run_append_slS w t o.type base e i z bytes ht hi hz hsize hby hzs v n xs hown u ys hsl h1 h63 hbytes hbase
  refine wpList_step fun K hK => ?_
  rw [if_pos hw]
  unfold Oper.wp
  simp [execOp, ho, resolve, invoke, builtin, hs, hx, hrun, Result.andThen]
  exact hK _ _ (h v' w' h2 h3)

theorem Sl.offB {W : World} {v : Value} {xs : List Value} (h : Sl W v xs) {b : Nat} (hb : W.heap.size ≤ b) : ∀ o n c, 0 < n → v ≠ .slice (some ⟨b, o, none⟩) n c := by
  intro o n c hn e
  obtain ⟨a, c', e1, _, _, h3⟩ := h
  rw [e] at e1
  injection e1 with e2 e3 e4
  obtain ⟨b', o', e5, hlt, _⟩ := h3 (by omega)
  rw [← e2] at e5
  cases e5
  omega
/-- A row of the call's own, of texts that the caller has. -/
structure Sure (W wr : World) (x : Value) (L : List (List Int)) : Prop where
  row : ∃ vs, wr.ownsRow W.heap.size 26 1 x L.length vs ∧ SlAll W vs L
theorem Sure.only {W wr w' : World} {x : Value} {L : List (List Int)} {ds : List Nat} (h : Sure W wr x L) (ho : Only ds wr w') (hn : ∀ k, x.ownBlock = some k → k ∉ ds) : Sure W w' x L := by
  obtain ⟨vs, h1, h2⟩ := h.row
  exact ⟨vs, ho.owns h1 hn, h2⟩
theorem Sure.low {W wr : World} {x : Value} {L : List (List Int)} (h : Sure W wr x L) {k : Nat} (hk : x.ownBlock = some k) : W.heap.size ≤ k ∧ k < wr.heap.size := by
  obtain ⟨vs, h1, _⟩ := h.row
  exact h1.lt k hk
theorem Sure.blk {W wr : World} {x : Value} {L : List (List Int)} (h : Sure W wr x L) {k : Nat} (hk : x.ownBlock = some k) : ∃ cur, Blk wr k 26 cur := by
  obtain ⟨vs, h1, _⟩ := h.row
  exact owns_blk h1 hk
theorem Sure.val {W wr : World} {x : Value} {L : List (List Int)} (h : Sure W wr x L) : ∃ a c, x = .slice a L.length c := by
  obtain ⟨vs, h1, h2⟩ := h.row
  obtain ⟨a, c, e, _⟩ := Sl.of_owns h1
  exact ⟨a, c, by rw [e, h2.len]⟩
theorem Sure.sls {W wr : World} {x : Value} {L : List (List Int)} (h : Sure W wr x L) (hb : Below W.heap.size W wr) : Sls wr x L := by
  obtain ⟨vs, h1, h2⟩ := h.row
  exact ⟨vs, Sl.of_owns h1, h2.len, fun i u bs hu hp => (h2.at i u bs hu hp).below hb (Nat.le_refl _)⟩
theorem SlAll.snocW {w : World} {u : Value} {p : List Int} (hu : Sl w u (p.map (Value.int .u8))) {us : List Value} {ps : List (List Int)} (h : SlAll w us ps) : SlAll w (us ++ [u]) (ps ++ [p]) := h.snoc hu
theorem run_append_su {W w : World} {ty : TypeId} (x : Value) (L : List (List Int)) (hown : Sure W w x L) (b cap : Nat) (u : Value) (hc : w.cell? ⟨b, 0, none⟩ = some u) (p : List Int) (hu : Sl W u (p.map (Value.int .u8))) (h63 : L.length + 1 ≤ 5000000000000) (hbase : W.heap.size ≤ w.heap.size) :
    ∃ v' w', (Builtin.append_ #[27, 27] ty #[x, .slice (some ⟨b, 0, none⟩) 1 cap]).run Tryd.prog w = .ok v' w' ∧ Sure W w' v' (L ++ [p]) ∧ Below W.heap.size w w' ∧ Only x.ownBlock.toList w w' ∧ (v'.ownBlock = x.ownBlock ∨ ∃ g, v'.ownBlock = some g ∧ w.heap.size ≤ g) := by
  obtain ⟨vs, h1, h2⟩ := hown.row
  obtain ⟨i0, hi, hz0, hz1, hz2⟩ := info_parts infoTB
  obtain ⟨ua, un, uc, rfl⟩ := hu.val
  obtain ⟨v', w', hrun, hown', hg, hsame⟩ := run_append_own (P := Tryd.prog) w W.heap.size 27 ty 26 i0 (.slice none 0 0) 1 24 Tryd.underlying27 hi hz0 hz1 hz2 rfl (by decide) x L.length vs h1 ⟨b, 0, none⟩ 1 cap [.slice ua un uc] rfl
    (fun j y hj => by
      match j, hj with
      | 0, hj => simp at hj; subst hj; exact hc
      | j + 1, hj => simp at hj) (by simp [Value.oneCell']) (by unfold maxLen; omega) (by omega) hbase
  obtain ⟨v2, w2, hrun2, hwh⟩ := run_append_where (P := Tryd.prog) w W.heap.size 27 ty 26 i0 (.slice none 0 0) 1 24 Tryd.underlying27 hi hz0 hz1 hz2 rfl (by decide) x L.length vs h1 ⟨b, 0, none⟩ 1 cap [.slice ua un uc] rfl
    (fun j y hj => by
      match j, hj with
      | 0, hj => simp at hj; subst hj; exact hc
      | j + 1, hj => simp at hj) (by simp [Value.oneCell']) (by decide) (by unfold maxLen; omega) (by omega) hbase
  obtain ⟨rfl, rfl⟩ : v' = v2 ∧ w' = w2 := by rw [hrun] at hrun2; injection hrun2 with e1 e2; exact ⟨e1, e2⟩
  exact ⟨v', w', hrun, ⟨_, by simpa using hown', h2.snoc hu⟩, (Below.refl _ _).grown hg hbase (fun k hk => (h1.lt k hk).1), ⟨hg.os, hg.tape, hg.output, hg.size, fun k hk hn => hg.block k hk fun e => hn (by simp [← e])⟩, hwh⟩
theorem wpList_append_su {W w : World} {ops : Array Oper} {rest : List Oper} {o : Oper} {a : Act} {Q : Exit → Act → World → Prop} (hw : Region.wanted o (yielded ops a.tmps) = true) (s x : Operand)
    (ho : o.op = .call { callee := .builtin .append, args := #[s, x], argTypes := #[27, 27] })
    (v : Value) (L : List (List Int)) (hs : a.eval s = v) (hown : Sure W w v L)
    (b cap : Nat) (hx : a.eval x = .slice (some ⟨b, 0, none⟩) 1 cap) (u : Value) (hc : w.cell? ⟨b, 0, none⟩ = some u) (p : List Int) (hu : Sl W u (p.map (Value.int .u8)))
    (h63 : L.length + 1 ≤ 5000000000000) (hbase : W.heap.size ≤ w.heap.size)
    (h : ∀ v' w', Sure W w' v' (L ++ [p]) → Below W.heap.size w w' → Only v.ownBlock.toList w w' → (v'.ownBlock = v.ownBlock ∨ ∃ g, v'.ownBlock = some g ∧ w.heap.size ≤ g) → wpList Tryd.prog ops Q rest (a.put o.dst v') w') : wpList Tryd.prog ops Q (o :: rest) a w := by
  obtain ⟨v', w', hrun, q1, q2, q3, q4⟩ := run_append_su (ty := o.type) v L hown b cap u hc p hu h63 hbase
  refine wpList_step fun K hK => ?_
  rw [if_pos hw]
  unfold Oper.wp
  simp [execOp, ho, resolve, invoke, builtin, hs, hx, hrun, Result.andThen]
  exact hK _ _ (h v' w' q1 q2 q3 q4)
/-- A log, and what was told OK. -/
structure Gs (W wr : World) (q g b : Nat) (v : Value) (s : LSt) (d : DSt) (x : Value) (L : List (List Int)) : Prop where
  gd : Gd W wr q g b v s d
  su : Sure W wr x L
  ap : ∀ k, x.ownBlock = some k → k ∉ q :: g :: b :: v.ownBlock.toList
theorem Gd.lts {W wr : World} {q g b : Nat} {v : Value} {s : LSt} {d : DSt} (h : Gd W wr q g b v s d) : ∀ k ∈ q :: g :: b :: v.ownBlock.toList, k < wr.heap.size := by
  obtain ⟨⟨B, hL⟩, _, _⟩ := h
  exact hL.lts
theorem Gs.below {W wr w' : World} {q g b : Nat} {v : Value} {s : LSt} {d : DSt} {x : Value} {L : List (List Int)} (h : Gs W wr q g b v s d x L) (hb : Below wr.heap.size wr w') : Gs W w' q g b v s d x L :=
  ⟨h.gd.below hb, h.su.only (Only.of_below [] hb) (by simp), h.ap⟩
theorem Gs.app {W wr w' : World} {q g b B : Nat} {v : Value} {s : LSt} {d : DSt} {x : Value} {L : List (List Int)} {r : LRes} {e : Ending} (h : Gs W wr q g b v s d x L) (ha : AppP wr w' q g b B v r e) : ∃ v', e = .returned (.int .i64 r.e) ∧ Gs W w' q g b v' r.s r.d x L := by
  obtain ⟨v', he, hG, hO, hown⟩ := h.gd.app ha
  refine ⟨v', he, hG, h.su.only hO h.ap, fun k hk hm => ?_⟩
  have h1 := h.ap k hk
  simp only [List.mem_cons, Option.mem_toList] at hm h1
  rcases hm with hm | hm | hm | hm
  · exact h1 (.inl hm)
  · exact h1 (.inr (.inl hm))
  · exact h1 (.inr (.inr (.inl hm)))
  · rcases hown with h2 | ⟨k2, h2, h3⟩
    · rw [h2] at hm; exact h1 (.inr (.inr (.inr hm)))
    · rw [h2] at hm
      cases hm
      have := (h.su.low hk).2
      omega
/-- Where what was told OK has grown. -/
theorem Gs.grow {W wr w' : World} {q g b : Nat} {v : Value} {s : LSt} {d : DSt} {x x' : Value} {L L' : List (List Int)} (h : Gs W wr q g b v s d x L) (hs : Sure W w' x' L') (hb : Below W.heap.size wr w') (ho : Only x.ownBlock.toList wr w') (hw : x'.ownBlock = x.ownBlock ∨ ∃ k, x'.ownBlock = some k ∧ wr.heap.size ≤ k) : Gs W w' q g b v s d x' L' := by
  have hno : ∀ k ∈ x.ownBlock.toList, ∀ cur, ¬ Blk wr k 5 cur := fun k hk cur e => by
    obtain ⟨c2, k2⟩ := h.su.blk (k := k) (by simpa using hk)
    exact Blk.ne_ e k2 (by decide) rfl
  have hap : ∀ k, k ∈ q :: g :: b :: v.ownBlock.toList → k ∉ x.ownBlock.toList := fun k hk hm => h.ap k (by simpa using hm) hk
  obtain ⟨⟨B, hL⟩, h2, h3⟩ := h.gd
  refine ⟨⟨⟨B, hL.only ho hno (fun k hk => hap k (by simp [hk])) (hap q (by simp)) (hap g (by simp)) (hap b (by simp))⟩, h2.trans hb, h3⟩, hs, fun k hk hm => ?_⟩
  rcases hw with h4 | ⟨k2, h4, h5⟩
  · rw [h4] at hk; exact h.ap k hk hm
  · rw [h4] at hk
    cases hk
    have := hL.lts k hm
    omega
/-- Where only the device has turned. -/
theorem Gs.dev {W wr w' : World} {q g b : Nat} {v : Value} {s : LSt} {d d' : DSt} {x : Value} {L : List (List Int)} (h : Gs W wr q g b v s d x L) (ho : Only [g, b] wr w') (hd : Dev w' g b d') (hl : d'.l.length = d.l.length) : Gs W w' q g b v s d' x L := by
  obtain ⟨⟨B, hL⟩, h2, h3⟩ := h.gd
  refine ⟨⟨⟨B, hL.devOnly ho hd hl⟩, Only.belowOf h2 ho h2.size (fun k hk => h3 k (by simp at hk; rcases hk with rfl | rfl <;> simp)), h3⟩, h.su.only ho (fun k hk hm => h.ap k hk (by simp at hm; rcases hm with rfl | rfl <;> simp)), h.ap⟩
theorem fuse_len (d : DSt) (n : Int) : (d.fuse n).l.length = d.l.length := by unfold DSt.fuse; split <;> rfl
theorem fuse_dead (d : DSt) (n : Int) : (d.fuse n).dead = d.dead := by unfold DSt.fuse; split <;> rfl

theorem OpenP.any {w w' : World} {g b : Nat} {d : DSt} {e : Ending} (h : OpenP w w' g b d e) : ∃ pa, e = .returned (.tuple #[.pointer pa, .int .i64 d.opened.2]) ∧ Dev w' g b d.opened.1 := by
  rcases h with ⟨he, q, v, h1, _, _, hL⟩ | ⟨_, h1, h2⟩
  · exact ⟨_, by rw [he]; exact h1, hL.dev⟩
  · exact ⟨_, h1, h2⟩
theorem Gs.devOf {W wr : World} {q g b : Nat} {v : Value} {s : LSt} {d : DSt} {x : Value} {L : List (List Int)} (h : Gs W wr q g b v s d x L) : Dev wr g b d := by
  obtain ⟨⟨B, hL⟩, _, _⟩ := h.gd
  exact hL.dev
theorem SlAll.one {w : World} : ∀ {us : List Value} {ps : List (List Int)}, SlAll w us ps → ∀ u ∈ us, u.oneCell' = true
  | [], [], _, u, hu => by cases hu
  | [], _ :: _, h, _, _ => h.elim
  | _ :: _, [], h, _, _ => h.elim
  | _ :: _, _ :: _, h, u, hu => by
    rcases List.mem_cons.1 hu with rfl | h1
    · obtain ⟨a, n, c, rfl⟩ := h.1.val; rfl
    · exact SlAll.one h.2 u h1
theorem half_of {d : DSt} {L : List (List Int)} {bs : List Int} (hl : d.l.length = 400) (hok : ∀ s ∈ d.l, s.ok) (hr : (logL L).length + (laidI ((L.length : Int) + 1) bs).length ≤ 400) (hg : GoodL L) (hb : bs.length ≤ 4000) : Half d L bs 400 := ⟨hl, hr, hok, hg, hb⟩
theorem HT.fuse {d : DSt} {L : List (List Int)} {bs : List Int} (h : HT d L bs) (n : Int) : HT (d.fuse n) L bs := AllP.fuse h n
theorem HT.crash {d : DSt} {L : List (List Int)} {bs : List Int} (h : HT d L bs) (k : List Int) : HT (d.crash k) L bs := AllP.crash h k
theorem HW.fuse {d : DSt} {L : List (List Int)} {bs : List Int} {m : Nat} (h : HW d L bs m) (n : Int) : HW (d.fuse n) L bs m := ⟨h.1, AllP.fuse h.2 n⟩
theorem HW.crash {d : DSt} {L : List (List Int)} {bs : List Int} {m : Nat} (h : HW d L bs m) (k : List Int) : HW (d.crash k) L bs m := ⟨h.1, AllP.crash h.2 k⟩
theorem crash_len2 (d : DSt) (keep : List Int) : (d.crash keep).l.length = d.l.length := by simp [DSt.crash, crashL]

set_option maxRecDepth 100000 in
set_option maxHeartbeats 8000000 in
theorem seglogCrashes_walk (v : Value) (pss : List (List Int)) (vl : Value) (last : List Int) (at_ : Int) (vk : Value) (keep : List Int) (again : Int) (vo : Value) (other : List Int) (w : World) (ht : Tabs w) (hB : ∀ p ∈ pss, IsB p) (hS : Sls w v pss) (hlB : IsB last) (hlS : Sl w vl (last.map (Value.int .u8))) (hll : last.length ≤ reachBytes) (ha0 : -9223372036854775808 ≤ at_) (ha1 : at_ ≤ 9223372036854775807) (hkB : IsB keep) (hkS : Sl w vk (keep.map (Value.int .u8))) (hkl : keep.length ≤ reachBytes) (hg0 : -9223372036854775808 ≤ again) (hg1 : again ≤ 9223372036854775807) (hoB : IsB other) (hoS : Sl w vo (other.map (Value.int .u8))) (hol : other.length ≤ reachBytes) :
    Calls Tryd.prog 5 #[v, vl, .int .i64 at_, vk, .int .i64 again, vo] w fun e w' => e = .returned (.bool true) ∧ Below w.heap.size w w' := by
  clear hll hkB hkl hoB hol
  have HT := Lib.hid ht
  have HS := Lib.hid hS
  have HBB := Lib.hid hB
  have HLB := Lib.hid hlB
  have HLS := Lib.hid hlS
  have HKS := Lib.hid hkS
  have HOS := Lib.hid hoS
  obtain ⟨va, vc, rfl, hvc, hvm⟩ := hS.shape
  obtain ⟨la, lc, rfl, hlc, hlm⟩ := hlS.shape
  rw [List.length_map] at hlc HLS
  rw [List.length_map]
  obtain ⟨ka, kn, kc, rfl⟩ := hkS.val
  obtain ⟨oa, on, oc, rfl⟩ := hoS.val
  obtain ⟨M, hM, hM2⟩ := mod_place0 at_ 40 (by omega)
  obtain ⟨R, hR, hR2⟩ := mod_place0 again 20 (by omega)
  have HN := Lib.hid (dnew_ok 400 w (by decide) (by decide))
  clear ht hS hB hlB hlS hkS hoS ha0 ha1 hg0 hg1 hM2 hR2
  go_enter Tryd.func5, Tryd.ntmps5
  go_wp2_with fail
  refine HN.out.mono ?_
  rintro e w1 ⟨g, b, rfl, hg, hb, hD, hb1⟩
  have HO := Lib.hid (open_any w1 g b _ (HT.out.below hb1) hD)
  have HB1 := Lib.hid hb1
  have HGB := Lib.hid (And.intro hg hb)
  clear hg hb hD hb1 HN
  go_wp2_with fail
  refine HO.out.mono ?_
  rintro e w2 ⟨hP, hO⟩
  obtain ⟨q, v2, rfl, hq, hv, hL⟩ := hP.ok (by rw [new_opened])
  rw [new_opened, new_log] at hL
  have hL : Lg w2 q g b w1.heap.size v2 ⟨400, 0, [], false⟩ (newD 400) := hL
  have HGS := Lib.hid (show Gs w w2 q g b v2 ⟨400, 0, [], false⟩ (newD 400) (.slice none 0 0) [] from ⟨⟨⟨_, hL⟩, Only.belowOf HB1.out hO HB1.out.size (fun k hk => by
      simp at hk
      rcases hk with rfl | rfl
      · exact HGB.out.1
      · exact HGB.out.2), fun k hk => by
      simp only [List.mem_cons, Option.mem_toList] at hk
      rcases hk with rfl | rfl | rfl | hk
      · exact Nat.le_trans HB1.out.size hq
      · exact HGB.out.1
      · exact HGB.out.2
      · exact Nat.le_trans HB1.out.size (hv _ hk)⟩, ⟨[], World.ownsRow_nil _ _ _ _, trivial⟩, fun k hk => by simp [Value.ownBlock] at hk⟩)
  clear hP hO hq hv hL HO HGB HB1
  go_wp2
  go_loopw [16, 43] (fun x i wr => ∃ (k : Nat) (v2 : Value) (s : LSt) (d : DSt) (L : List (List Int)), k ≤ pss.length ∧ i = .int .i64 k ∧ Hid (Gs w wr q g b v2 s d x L) ∧ Hid (Ph s d L 400 ∧ d.calm) ∧ Hid (L.length ≤ k ∧ L.length ≤ 8 ∧ (∀ p ∈ L, IsB p) ∧ (∀ p ∈ L, p.length ≤ 700))) (fun _ i _ => pss.length - (intOf i).toNat)
  case atStart => exact ⟨0, v2, _, _, [], by omega, rfl, HGS, Lib.hid ⟨Ph.new 400, new_calm 400⟩, Lib.hid ⟨by simp, by simp, by simp, by simp⟩⟩
  case round =>
    clear HGS
    obtain ⟨k, v2, s, d, L, hk, rfl, hG, hPh, hLL⟩ := hrel
    obtain ⟨xa, xc, hx⟩ := hG.out.su.val
    subst hx
    by_cases hlt : k < pss.length
    · have hkI : (k : Int) < (pss.length : Int) := by omega
      obtain ⟨lb, lo, rfl, hlb, u, cu, hu⟩ := HS.out.at hlt
      have cu := (hG.out.gd.bel.cell (p := ⟨lb, lo + k, none⟩) hlb).trans cu
      have HPB := Lib.hid (HBB.out _ (getD_mem hlt))
      generalize pss.getD k [] = p at *
      obtain ⟨ua, uc, rfl, huc, hum⟩ := hu.shape
      rw [List.length_map] at huc cu hu
      by_cases hk8 : k < 8
      · have hk8I : (k : Int) < 8 := by omega
        by_cases h7 : (p.length : Int) ≤ 700
        · have HP7 := Lib.hid h7
          have HUT := Lib.hid (show Sl w (.slice ua p.length uc) (p.map (Value.int .u8)) from hu)
          have HPL := Lib.hid (show p.length ≤ 700 from by have := HP7.out; omega)
          have HPB2 := Lib.hid (show IsB p from HPB.out)
          have HRM := Lib.hid (show (logL L).length + (laidI ((L.length : Int) + 1) p).length ≤ 400 from by
            have h1 := logL_short hLL.out.2.2.2
            have h2 := hLL.out.2.1
            have h3 := HPL.out
            have h4 : L.length ≤ k := hLL.out.1
            rw [laidI_len]
            omega)
          obtain ⟨B, hL⟩ := hG.out.gd.lg
          have HAP := Lib.hid (append_any wr q g b B v2 s d (.slice ua p.length uc) p hL HPB2.out (HT.out.below hG.out.gd.bel) (hG.out.gd.sl (Only.refl _ _) HUT.out) (fun w' ho => hG.out.gd.sl ho HUT.out))
          have HPA := Lib.hid (hPh.out.1.app (bs := p) hPh.out.2 (by have := HPL.out; omega) HRM.out)
          clear hu hL
          go_wp2_with fail
          refine HAP.out.mono ?_
          intro e w3 hA
          obtain ⟨v3, rfl, hG3⟩ := hG.out.app hA
          have HG3 := Lib.hid hG3
          clear hA hG3 HAP
          rcases HPA.out with ⟨he, hp2, hc2⟩ | he
          · rw [he]
            have HP2 := Lib.hid (And.intro hp2 hc2)
            have hbA : Below w3.heap.size w3 (w3.alloc (.cells #[(.slice ua p.length uc)] 26)) := (Below.refl _ _).alloc (Nat.le_refl _) _
            have HGA := Lib.hid (HG3.out.below hbA)
            have HCA := Lib.hid ((Blk.new w3 26 #[(.slice ua p.length uc)]).cell 0)
            have HL1 := Lib.hid (show L.length + 1 ≤ 5000000000000 from by have := hLL.out.2.1; omega)
            clear hp2 hc2 he HPA hG hbA
            go_wp2_with (at_builtin; refine wpList_append_su (by rfl) _ _ rfl (.slice xa L.length xc) L rfl HGA.out.su w3.heap.size 1 rfl (.slice ua p.length uc) HCA.out p HUT.out HL1.out HGA.out.gd.bel.size ?_)
            intro v5 w5 hs5 hb5 ho5 hw5
            have HG5 := Lib.hid (HGA.out.grow hs5 hb5 ho5 (by simpa using hw5))
            have HLL5 := Lib.hid (show (L ++ [p]).length ≤ k + 1 ∧ (L ++ [p]).length ≤ 8 ∧ (∀ y ∈ L ++ [p], IsB y) ∧ (∀ y ∈ L ++ [p], y.length ≤ 700) from
              ⟨by have := hLL.out.1; simp; omega, by have := hLL.out.1; simp; omega, fun x hx => by
                rcases List.mem_append.1 hx with h1 | h1
                · exact hLL.out.2.2.1 x h1
                · rw [List.mem_singleton.1 h1]; exact HPB2.out, fun x hx => by
                rcases List.mem_append.1 hx with h1 | h1
                · exact hLL.out.2.2.2 x h1
                · rw [List.mem_singleton.1 h1]; exact HPL.out⟩)
            clear hs5 hb5 ho5 hw5
            go_wp2
            go_roundw
            case rel => exact ⟨k + 1, v3, _, _, _, hlt, by go_num, HG5, HP2, HLL5⟩
            case measure => simp [intOf]; omega
          · rw [he] at HG3 ⊢
            clear he HPA hG
            have HLL5 := Lib.hid (show L.length ≤ k + 1 ∧ L.length ≤ 8 ∧ (∀ p ∈ L, IsB p) ∧ (∀ p ∈ L, p.length ≤ 700) from ⟨by have := hLL.out.1; omega, hLL.out.2⟩)
            go_wp2
            go_roundw
            case rel => exact ⟨k + 1, v3, _, _, _, hlt, by go_num, HG3, hPh, HLL5⟩
            case measure => simp [intOf]; omega
        · have h7b : (700 : Int) < (p.length : Int) := by omega
          have h7c : (700 : Int) ≤ (uc : Int) := by omega
          have hl7 : 700 ≤ (p.map (Value.int .u8)).length := by rw [List.length_map]; omega
          have HL7 := Lib.hid hl7
          clear hl7 h7
          have HUT := Lib.hid (show Sl w (.slice ua 700 uc) ((p.take 700).map (Value.int .u8)) from by rw [List.map_take]; exact hu.take 700 HL7.out)
          have HPL := Lib.hid (show (p.take 700).length ≤ 700 from by rw [List.length_take]; omega)
          have HPB2 := Lib.hid (show IsB (p.take 700) from HPB.out.take 700)
          have HRM := Lib.hid (show (logL L).length + (laidI ((L.length : Int) + 1) (p.take 700)).length ≤ 400 from by
            have h1 := logL_short hLL.out.2.2.2
            have h2 := hLL.out.2.1
            have h3 := HPL.out
            have h4 : L.length ≤ k := hLL.out.1
            rw [laidI_len]
            omega)
          obtain ⟨B, hL⟩ := hG.out.gd.lg
          have HAP := Lib.hid (append_any wr q g b B v2 s d (.slice ua 700 uc) (p.take 700) hL HPB2.out (HT.out.below hG.out.gd.bel) (hG.out.gd.sl (Only.refl _ _) HUT.out) (fun w' ho => hG.out.gd.sl ho HUT.out))
          have HPA := Lib.hid (hPh.out.1.app (bs := (p.take 700)) hPh.out.2 (by have := HPL.out; omega) HRM.out)
          clear hu hL
          go_wp2_with fail
          refine HAP.out.mono ?_
          intro e w3 hA
          obtain ⟨v3, rfl, hG3⟩ := hG.out.app hA
          have HG3 := Lib.hid hG3
          clear hA hG3 HAP
          rcases HPA.out with ⟨he, hp2, hc2⟩ | he
          · rw [he]
            have HP2 := Lib.hid (And.intro hp2 hc2)
            have hbA : Below w3.heap.size w3 (w3.alloc (.cells #[(.slice ua 700 uc)] 26)) := (Below.refl _ _).alloc (Nat.le_refl _) _
            have HGA := Lib.hid (HG3.out.below hbA)
            have HCA := Lib.hid ((Blk.new w3 26 #[(.slice ua 700 uc)]).cell 0)
            have HL1 := Lib.hid (show L.length + 1 ≤ 5000000000000 from by have := hLL.out.2.1; omega)
            clear hp2 hc2 he HPA hG hbA
            go_wp2_with (at_builtin; refine wpList_append_su (by rfl) _ _ rfl (.slice xa L.length xc) L rfl HGA.out.su w3.heap.size 1 rfl (.slice ua 700 uc) HCA.out (p.take 700) HUT.out HL1.out HGA.out.gd.bel.size ?_)
            intro v5 w5 hs5 hb5 ho5 hw5
            have HG5 := Lib.hid (HGA.out.grow hs5 hb5 ho5 (by simpa using hw5))
            have HLL5 := Lib.hid (show (L ++ [(p.take 700)]).length ≤ k + 1 ∧ (L ++ [(p.take 700)]).length ≤ 8 ∧ (∀ y ∈ L ++ [(p.take 700)], IsB y) ∧ (∀ y ∈ L ++ [(p.take 700)], y.length ≤ 700) from
              ⟨by have := hLL.out.1; simp; omega, by have := hLL.out.1; simp; omega, fun x hx => by
                rcases List.mem_append.1 hx with h1 | h1
                · exact hLL.out.2.2.1 x h1
                · rw [List.mem_singleton.1 h1]; exact HPB2.out, fun x hx => by
                rcases List.mem_append.1 hx with h1 | h1
                · exact hLL.out.2.2.2 x h1
                · rw [List.mem_singleton.1 h1]; exact HPL.out⟩)
            clear hs5 hb5 ho5 hw5
            go_wp2
            go_roundw
            case rel => exact ⟨k + 1, v3, _, _, _, hlt, by go_num, HG5, HP2, HLL5⟩
            case measure => simp [intOf]; omega
          · rw [he] at HG3 ⊢
            clear he HPA hG
            have HLL5 := Lib.hid (show L.length ≤ k + 1 ∧ L.length ≤ 8 ∧ (∀ p ∈ L, IsB p) ∧ (∀ p ∈ L, p.length ≤ 700) from ⟨by have := hLL.out.1; omega, hLL.out.2⟩)
            go_wp2
            go_roundw
            case rel => exact ⟨k + 1, v3, _, _, _, hlt, by go_num, HG3, hPh, HLL5⟩
            case measure => simp [intOf]; omega
      · have hk8I : ¬ (k : Int) < 8 := by omega
        have HLL5 := Lib.hid (show L.length ≤ k + 1 ∧ L.length ≤ 8 ∧ (∀ p ∈ L, IsB p) ∧ (∀ p ∈ L, p.length ≤ 700) from ⟨by have := hLL.out.1; omega, hLL.out.2⟩)
        clear hu
        go_wp2
        go_roundw
        case rel => exact ⟨k + 1, v2, s, d, L, hlt, by go_num, hG, hPh, HLL5⟩
        case measure => simp [intOf]; omega
    · obtain rfl : k = pss.length := by omega
      have hkI : ¬ (pss.length : Int) < (pss.length : Int) := by omega
      obtain ⟨B0, hL0⟩ := hG.out.gd.lg
      have HFU := Lib.hid (dfuse_any wr g b d M hL0.dev)
      rw [show fuseE (M : Int) = 0 from if_neg (by omega)] at HFU
      clear hL0 B0
      go_wp2_with fail
      refine HFU.out.mono ?_
      rintro e w3 ⟨rfl, hD3, hO3⟩
      have G3 := Lib.hid (hG.out.dev (hO3.mono (cs := [g, b]) (by simp)) hD3 (fuse_len _ _))
      clear hD3 hO3 HFU hG
      by_cases h20 : (last.length : Int) ≤ 2000
      · have HP7 := Lib.hid h20
        have HUT := Lib.hid (show Sl w (.slice la last.length lc) (last.map (Value.int .u8)) from HLS.out)
        have HPB2 := Lib.hid (show IsB last from HLB.out)
        have HP2K := Lib.hid (show last.length ≤ 2000 from by have := HP7.out; omega)
        have HP4 := Lib.hid (Nat.le_trans HP2K.out (show 2000 ≤ 4000 by decide))
        have HRM := Lib.hid (show (logL L).length + (laidI ((L.length : Int) + 1) last).length ≤ 400 from by
          have h1 := logL_short hLL.out.2.2.2
          have h2 := hLL.out.2.1
          have h3 := HP2K.out
          rw [laidI_len]
          omega)
        have HGL := Lib.hid hPh.out.1.good
        have HIL := Lib.hid hLL.out.2.2.1
        have HIL2 := Lib.hid (show ∀ y ∈ L ++ [last], IsB y from fun y hy => by
          rcases List.mem_append.1 hy with h1 | h1
          · exact hLL.out.2.2.1 y h1
          · rw [List.mem_singleton.1 h1]; exact HPB2.out)
        obtain ⟨B, hL⟩ := G3.out.gd.lg
        have HAP := Lib.hid (append_any w3 q g b B v2 s (d.fuse M) (.slice la last.length lc) last hL HPB2.out (HT.out.below G3.out.gd.bel) (G3.out.gd.sl (Only.refl _ _) HUT.out) (fun w' ho => G3.out.gd.sl ho HUT.out))
        have HCRS := Lib.hid (fun hok => app_crash (bs := last) (hPh.out.1.fuse (M : Int)) HP4.out HRM.out hok keep)
        clear hL
        go_wp2_with fail
        refine HAP.out.mono ?_
        intro e w4 hA
        obtain ⟨v4, rfl, hG4⟩ := G3.out.app hA
        have G4 := Lib.hid hG4
        have HRES := Lib.hid (HCRS.out hG4.devOf.ok)
        clear hA hG4 HAP HCRS G3
        generalize appD s (d.fuse M) last = r at *
        obtain ⟨rs, rd, re⟩ := r
        have HRD := Lib.hid (show rd.l.length = 400 from HRES.out.1)
        have HREX := Lib.hid HRES.out.2
        clear HRES
        rcases HREX.out with ⟨he, hmd⟩ | ⟨he, hmd | hmd⟩ | ⟨he, hmd⟩
        · obtain rfl : re = 0 := he
          have HMD := Lib.hid hmd
          clear hmd HREX
          have hbA : Below w4.heap.size w4 (w4.alloc (.cells #[(.slice la last.length lc)] 26)) := (Below.refl _ _).alloc (Nat.le_refl _) _
          have GA := Lib.hid (G4.out.below hbA)
          have HCA := Lib.hid ((Blk.new w4 26 #[(.slice la last.length lc)]).cell 0)
          have HL1 := Lib.hid (show L.length + 1 ≤ 5000000000000 from by have := hLL.out.2.1; omega)
          clear hbA G4
          go_wp2_with (at_builtin; refine wpList_append_su (by rfl) _ _ rfl (.slice xa L.length xc) L rfl GA.out.su w4.heap.size 1 rfl (.slice la last.length lc) HCA.out last HUT.out HL1.out GA.out.gd.bel.size ?_)
          intro v5 w5 hs5 hb5 ho5 hw5
          have G0 := Lib.hid (GA.out.grow hs5 hb5 ho5 (by simpa using hw5))
          obtain ⟨xa5, xn5, xc5, rfl⟩ : ∃ a n c, v5 = Value.slice a n c := (by obtain ⟨a, c, e⟩ := hs5.val; exact ⟨a, _, c, e⟩)
          clear hs5 hb5 ho5 hw5 GA HCA
          obtain ⟨B6, hL6⟩ := G0.out.gd.lg
          have hbw := G0.out.gd.base b (by simp)
          have HCR := Lib.hid (dcrash_any _ g b rd (.slice ka kn kc) keep hL6.dev (HKS.out.below G0.out.gd.bel (Nat.le_refl _)) (HKS.out.offB hbw))
          clear hL6 B6
          go_wp2_with fail
          refine HCR.out.mono ?_
          rintro e w6 ⟨rfl, hD6, hO6⟩
          have G6 := Lib.hid (G0.out.dev hO6 hD6 (crash_len2 _ _))
          have HFU := Lib.hid (dfuse_any w6 g b (rd.crash keep) R hD6)
          rw [show fuseE (R : Int) = 0 from if_neg (by omega)] at HFU
          clear hD6 hO6 HCR G0
          go_wp2_with fail
          refine HFU.out.mono ?_
          rintro e w7 ⟨rfl, hD7, hO7⟩
          have G7 := Lib.hid (G6.out.dev (hO7.mono (cs := [g, b]) (by simp)) hD7 (fuse_len _ _))
          have HLF := Lib.hid (half_of (d := (rd.crash keep).fuse R) ((fuse_len _ _).trans ((crash_len2 _ _).trans HRD.out)) hD7.ok HRM.out HGL.out HP4.out)
          have HCD := Lib.hid (show ((rd.crash keep).fuse R).dead = false from (fuse_dead _ _).trans rfl)
          have HMO := Lib.hid (HMD.out.fuse (R : Int))
          have HOP := Lib.hid (open_any w7 g b ((rd.crash keep).fuse R) (HT.out.below G7.out.gd.bel) hD7)
          clear hD7 hO7 HFU G6
          go_wp2_with fail
          refine HOP.out.mono ?_
          rintro e w8 ⟨hP8, hO8⟩
          obtain ⟨pa, rfl, hD8⟩ := hP8.any
          have G8 := Lib.hid (G7.out.dev hO8 hD8 (opened_len _))
          have HOT := Lib.hid (open_whole HLF.out HMO.out HCD.out)
          rw [HOT.out.1] at hD8 G8 ⊢
          have HM2 := Lib.hid HMO.out
          have HD8L := Lib.hid HLF.out.len
          generalize ((rd.crash keep).fuse R) = d8 at *
          clear hP8 hO8 HOP G7 HMO HLF HCD HMD HOT
          have hbw8 := G8.out.gd.base b (by simp)
          have HCR := Lib.hid (dcrash_any w8 g b d8 (.slice oa on oc) other hD8 (HOS.out.below G8.out.gd.bel (Nat.le_refl _)) (HOS.out.offB hbw8))
          clear hD8 hbw8
          go_wp2_with fail
          refine HCR.out.mono ?_
          rintro e w9 ⟨rfl, hD9, hO9⟩
          have G9 := Lib.hid (G8.out.dev hO9 hD9 (crash_len2 _ _))
          have HLF := Lib.hid (half_of (d := d8.crash other) ((crash_len2 _ _).trans HD8L.out) hD9.ok HRM.out HGL.out HP4.out)
          have HM3 := Lib.hid (HM2.out.crash other)
          have HOP := Lib.hid (open_any w9 g b (d8.crash other) (HT.out.below G9.out.gd.bel) hD9)
          have HOT := Lib.hid (open_whole HLF.out HM3.out rfl)
          have HEZ := Lib.hid (show (d8.crash other).opened.2 = 0 from by rw [HOT.out.1])
          have HLG := Lib.hid HOT.out.2
          clear HOT
          clear hD9 hO9 HCR G8 HM2 HLF HM3
          go_wp2_with fail
          refine HOP.out.mono ?_
          rintro e wa ⟨hPa, hOa⟩
          obtain ⟨q9, v9, rfl, hq9, hv9, hLa⟩ := hPa.ok HEZ.out
          have GA := Lib.hid (G9.out.dev hOa hLa.dev (opened_len _))
          have HRE := Lib.hid (lrecords_any wa q9 g b _ v9 _ _ hLa)
          rw [HLG.out] at HRE
          clear hPa hOa hq9 hv9 hLa HOP G9
          go_wp2_with fail
          refine HRE.out.mono ?_
          rintro e wb ⟨xb, rfl, hxb, hbb⟩
          obtain ⟨ya, yn, yc, rfl⟩ : ∃ a n c, xb = Value.slice a n c := (by obtain ⟨a, c, e⟩ := hxb.val; exact ⟨a, _, c, e⟩)
          have GB := Lib.hid (GA.out.below hbb)
          have HXB := Lib.hid hxb
          obtain ⟨sa, sc, hsv⟩ := GB.out.su.val
          have HSM := Lib.hid (sameTexts_any _ _ (L ++ [last]) (L ++ [last]) wb hxb.sls (GB.out.su.sls GB.out.gd.bel) HIL2.out HIL2.out)
          clear hxb hbb HRE GA HLG HEZ
          rw [decide_eq_true rfl] at HSM
          have HAW := Lib.hid (awake08_any wb (HT.out.below GB.out.gd.bel))
          have HBW := Lib.hid GB.out.gd.bel
          clear HXB GB hsv
          go_wp2_with fail
          refine HSM.out.mono ?_
          rintro e wc ⟨rfl, rfl⟩
          go_wp2_with fail
          refine HAW.out.mono ?_
          rintro e wd ⟨rfl, hbd⟩
          have HBD := Lib.hid (below_trans2 HBW.out hbd)
          clear hbd
          go_wp2
          go_ret
          exact ⟨rfl, HBD.out⟩

        · obtain rfl : re = 70 := he
          have HMD := Lib.hid hmd
          clear hmd HREX
          have G0 := G4
          clear G4
          obtain ⟨B6, hL6⟩ := G0.out.gd.lg
          have hbw := G0.out.gd.base b (by simp)
          have HCR := Lib.hid (dcrash_any _ g b rd (.slice ka kn kc) keep hL6.dev (HKS.out.below G0.out.gd.bel (Nat.le_refl _)) (HKS.out.offB hbw))
          clear hL6 B6
          go_wp2_with fail
          refine HCR.out.mono ?_
          rintro e w6 ⟨rfl, hD6, hO6⟩
          have G6 := Lib.hid (G0.out.dev hO6 hD6 (crash_len2 _ _))
          have HFU := Lib.hid (dfuse_any w6 g b (rd.crash keep) R hD6)
          rw [show fuseE (R : Int) = 0 from if_neg (by omega)] at HFU
          clear hD6 hO6 HCR G0
          go_wp2_with fail
          refine HFU.out.mono ?_
          rintro e w7 ⟨rfl, hD7, hO7⟩
          have G7 := Lib.hid (G6.out.dev (hO7.mono (cs := [g, b]) (by simp)) hD7 (fuse_len _ _))
          have HLF := Lib.hid (half_of (d := (rd.crash keep).fuse R) ((fuse_len _ _).trans ((crash_len2 _ _).trans HRD.out)) hD7.ok HRM.out HGL.out HP4.out)
          have HCD := Lib.hid (show ((rd.crash keep).fuse R).dead = false from (fuse_dead _ _).trans rfl)
          have HMO := Lib.hid (HMD.out.fuse (R : Int))
          have HOP := Lib.hid (open_any w7 g b ((rd.crash keep).fuse R) (HT.out.below G7.out.gd.bel) hD7)
          clear hD7 hO7 HFU G6
          go_wp2_with fail
          refine HOP.out.mono ?_
          rintro e w8 ⟨hP8, hO8⟩
          obtain ⟨pa, rfl, hD8⟩ := hP8.any
          have G8 := Lib.hid (G7.out.dev hO8 hD8 (opened_len _))
          have HOT := Lib.hid (open_torn HLF.out HMO.out HCD.out)
          have HM2 := Lib.hid HOT.out.2.1
          have HE8 := Lib.hid HOT.out.1
          clear HOT
          have HD8L := Lib.hid (show ((rd.crash keep).fuse R).opened.1.l.length = 400 from (opened_len _).trans HLF.out.len)
          generalize ((rd.crash keep).fuse R).opened.1 = d8 at *
          generalize ((rd.crash keep).fuse R).opened.2 = er8 at *
          clear hP8 hO8 HOP G7 HMO HLF HCD HMD
          rcases HE8.out with rfl | rfl
          · have hbw8 := G8.out.gd.base b (by simp)
            have HCR := Lib.hid (dcrash_any w8 g b d8 (.slice oa on oc) other hD8 (HOS.out.below G8.out.gd.bel (Nat.le_refl _)) (HOS.out.offB hbw8))
            clear hD8 hbw8
            go_wp2_with fail
            refine HCR.out.mono ?_
            rintro e w9 ⟨rfl, hD9, hO9⟩
            have G9 := Lib.hid (G8.out.dev hO9 hD9 (crash_len2 _ _))
            have HLF := Lib.hid (half_of (d := d8.crash other) ((crash_len2 _ _).trans HD8L.out) hD9.ok HRM.out HGL.out HP4.out)
            have HM3 := Lib.hid (HM2.out.crash other)
            have HOP := Lib.hid (open_any w9 g b (d8.crash other) (HT.out.below G9.out.gd.bel) hD9)
            have HOT := Lib.hid (open_torn HLF.out HM3.out rfl)
            have HEZ := Lib.hid (HOT.out.2.2.2 ⟨rfl, rfl⟩)
            have HLG := Lib.hid HOT.out.2.2.1
            clear HOT
            clear hD9 hO9 HCR G8 HM2 HLF HM3
            go_wp2_with fail
            refine HOP.out.mono ?_
            rintro e wa ⟨hPa, hOa⟩
            obtain ⟨q9, v9, rfl, hq9, hv9, hLa⟩ := hPa.ok HEZ.out
            have GA := Lib.hid (G9.out.dev hOa hLa.dev (opened_len _))
            have HRE := Lib.hid (lrecords_any wa q9 g b _ v9 _ _ hLa)
            rw [HLG.out] at HRE
            clear hPa hOa hq9 hv9 hLa HOP G9
            go_wp2_with fail
            refine HRE.out.mono ?_
            rintro e wb ⟨xb, rfl, hxb, hbb⟩
            obtain ⟨ya, yn, yc, rfl⟩ : ∃ a n c, xb = Value.slice a n c := (by obtain ⟨a, c, e⟩ := hxb.val; exact ⟨a, _, c, e⟩)
            have GB := Lib.hid (GA.out.below hbb)
            have HXB := Lib.hid hxb
            obtain ⟨sa, sc, hsv⟩ := GB.out.su.val
            have HSM := Lib.hid (sameTexts_any _ _ L L wb hxb.sls (GB.out.su.sls GB.out.gd.bel) HIL.out HIL.out)
            clear hxb hbb HRE GA HLG HEZ
            rw [decide_eq_true rfl] at HSM
            have HAW := Lib.hid (awake08_any wb (HT.out.below GB.out.gd.bel))
            have HBW := Lib.hid GB.out.gd.bel
            clear HXB GB hsv
            go_wp2_with fail
            refine HSM.out.mono ?_
            rintro e wc ⟨rfl, rfl⟩
            go_wp2_with fail
            refine HAW.out.mono ?_
            rintro e wd ⟨rfl, hbd⟩
            have HBD := Lib.hid (below_trans2 HBW.out hbd)
            clear hbd
            go_wp2
            go_ret
            exact ⟨rfl, HBD.out⟩

          · have hbw8 := G8.out.gd.base b (by simp)
            have HCR := Lib.hid (dcrash_any w8 g b d8 (.slice oa on oc) other hD8 (HOS.out.below G8.out.gd.bel (Nat.le_refl _)) (HOS.out.offB hbw8))
            clear hD8 hbw8
            go_wp2_with fail
            refine HCR.out.mono ?_
            rintro e w9 ⟨rfl, hD9, hO9⟩
            have G9 := Lib.hid (G8.out.dev hO9 hD9 (crash_len2 _ _))
            have HLF := Lib.hid (half_of (d := d8.crash other) ((crash_len2 _ _).trans HD8L.out) hD9.ok HRM.out HGL.out HP4.out)
            have HM3 := Lib.hid (HM2.out.crash other)
            have HOP := Lib.hid (open_any w9 g b (d8.crash other) (HT.out.below G9.out.gd.bel) hD9)
            have HOT := Lib.hid (open_torn HLF.out HM3.out rfl)
            have HEZ := Lib.hid (HOT.out.2.2.2 ⟨rfl, rfl⟩)
            have HLG := Lib.hid HOT.out.2.2.1
            clear HOT
            clear hD9 hO9 HCR G8 HM2 HLF HM3
            go_wp2_with fail
            refine HOP.out.mono ?_
            rintro e wa ⟨hPa, hOa⟩
            obtain ⟨q9, v9, rfl, hq9, hv9, hLa⟩ := hPa.ok HEZ.out
            have GA := Lib.hid (G9.out.dev hOa hLa.dev (opened_len _))
            have HRE := Lib.hid (lrecords_any wa q9 g b _ v9 _ _ hLa)
            rw [HLG.out] at HRE
            clear hPa hOa hq9 hv9 hLa HOP G9
            go_wp2_with fail
            refine HRE.out.mono ?_
            rintro e wb ⟨xb, rfl, hxb, hbb⟩
            obtain ⟨ya, yn, yc, rfl⟩ : ∃ a n c, xb = Value.slice a n c := (by obtain ⟨a, c, e⟩ := hxb.val; exact ⟨a, _, c, e⟩)
            have GB := Lib.hid (GA.out.below hbb)
            have HXB := Lib.hid hxb
            obtain ⟨sa, sc, hsv⟩ := GB.out.su.val
            have HSM := Lib.hid (sameTexts_any _ _ L L wb hxb.sls (GB.out.su.sls GB.out.gd.bel) HIL.out HIL.out)
            clear hxb hbb HRE GA HLG HEZ
            rw [decide_eq_true rfl] at HSM
            have HAW := Lib.hid (awake08_any wb (HT.out.below GB.out.gd.bel))
            have HBW := Lib.hid GB.out.gd.bel
            clear HXB GB hsv
            go_wp2_with fail
            refine HSM.out.mono ?_
            rintro e wc ⟨rfl, rfl⟩
            go_wp2_with fail
            refine HAW.out.mono ?_
            rintro e wd ⟨rfl, hbd⟩
            have HBD := Lib.hid (below_trans2 HBW.out hbd)
            clear hbd
            go_wp2
            go_ret
            exact ⟨rfl, HBD.out⟩


        · obtain rfl : re = 70 := he
          have HMD := Lib.hid hmd
          clear hmd HREX
          have G0 := G4
          clear G4
          obtain ⟨B6, hL6⟩ := G0.out.gd.lg
          have hbw := G0.out.gd.base b (by simp)
          have HCR := Lib.hid (dcrash_any _ g b rd (.slice ka kn kc) keep hL6.dev (HKS.out.below G0.out.gd.bel (Nat.le_refl _)) (HKS.out.offB hbw))
          clear hL6 B6
          go_wp2_with fail
          refine HCR.out.mono ?_
          rintro e w6 ⟨rfl, hD6, hO6⟩
          have G6 := Lib.hid (G0.out.dev hO6 hD6 (crash_len2 _ _))
          have HFU := Lib.hid (dfuse_any w6 g b (rd.crash keep) R hD6)
          rw [show fuseE (R : Int) = 0 from if_neg (by omega)] at HFU
          clear hD6 hO6 HCR G0
          go_wp2_with fail
          refine HFU.out.mono ?_
          rintro e w7 ⟨rfl, hD7, hO7⟩
          have G7 := Lib.hid (G6.out.dev (hO7.mono (cs := [g, b]) (by simp)) hD7 (fuse_len _ _))
          have HLF := Lib.hid (half_of (d := (rd.crash keep).fuse R) ((fuse_len _ _).trans ((crash_len2 _ _).trans HRD.out)) hD7.ok HRM.out HGL.out HP4.out)
          have HCD := Lib.hid (show ((rd.crash keep).fuse R).dead = false from (fuse_dead _ _).trans rfl)
          have HMO := Lib.hid (HMD.out.fuse (R : Int))
          have HOP := Lib.hid (open_any w7 g b ((rd.crash keep).fuse R) (HT.out.below G7.out.gd.bel) hD7)
          clear hD7 hO7 HFU G6
          go_wp2_with fail
          refine HOP.out.mono ?_
          rintro e w8 ⟨hP8, hO8⟩
          obtain ⟨pa, rfl, hD8⟩ := hP8.any
          have G8 := Lib.hid (G7.out.dev hO8 hD8 (opened_len _))
          have HOT := Lib.hid (open_whole HLF.out HMO.out HCD.out)
          rw [HOT.out.1] at hD8 G8 ⊢
          have HM2 := Lib.hid HMO.out
          have HD8L := Lib.hid HLF.out.len
          generalize ((rd.crash keep).fuse R) = d8 at *
          clear hP8 hO8 HOP G7 HMO HLF HCD HMD HOT
          have hbw8 := G8.out.gd.base b (by simp)
          have HCR := Lib.hid (dcrash_any w8 g b d8 (.slice oa on oc) other hD8 (HOS.out.below G8.out.gd.bel (Nat.le_refl _)) (HOS.out.offB hbw8))
          clear hD8 hbw8
          go_wp2_with fail
          refine HCR.out.mono ?_
          rintro e w9 ⟨rfl, hD9, hO9⟩
          have G9 := Lib.hid (G8.out.dev hO9 hD9 (crash_len2 _ _))
          have HLF := Lib.hid (half_of (d := d8.crash other) ((crash_len2 _ _).trans HD8L.out) hD9.ok HRM.out HGL.out HP4.out)
          have HM3 := Lib.hid (HM2.out.crash other)
          have HOP := Lib.hid (open_any w9 g b (d8.crash other) (HT.out.below G9.out.gd.bel) hD9)
          have HOT := Lib.hid (open_whole HLF.out HM3.out rfl)
          have HEZ := Lib.hid (show (d8.crash other).opened.2 = 0 from by rw [HOT.out.1])
          have HLG := Lib.hid HOT.out.2
          clear HOT
          clear hD9 hO9 HCR G8 HM2 HLF HM3
          go_wp2_with fail
          refine HOP.out.mono ?_
          rintro e wa ⟨hPa, hOa⟩
          obtain ⟨q9, v9, rfl, hq9, hv9, hLa⟩ := hPa.ok HEZ.out
          have GA := Lib.hid (G9.out.dev hOa hLa.dev (opened_len _))
          have HRE := Lib.hid (lrecords_any wa q9 g b _ v9 _ _ hLa)
          rw [HLG.out] at HRE
          clear hPa hOa hq9 hv9 hLa HOP G9
          go_wp2_with fail
          refine HRE.out.mono ?_
          rintro e wb ⟨xb, rfl, hxb, hbb⟩
          obtain ⟨ya, yn, yc, rfl⟩ : ∃ a n c, xb = Value.slice a n c := (by obtain ⟨a, c, e⟩ := hxb.val; exact ⟨a, _, c, e⟩)
          have GB := Lib.hid (GA.out.below hbb)
          have HXB := Lib.hid hxb
          obtain ⟨sa, sc, hsv⟩ := GB.out.su.val
          have HSM := Lib.hid (sameTexts_any _ _ (L ++ [last]) L wb hxb.sls (GB.out.su.sls GB.out.gd.bel) HIL2.out HIL.out)
          clear hxb hbb HRE GA HLG HEZ
          rw [decide_eq_false (show ¬ L ++ [last] = L from fun e => by have := congrArg List.length e; simp at this)] at HSM
          obtain ⟨vs, hvs, hva⟩ := GB.out.su.row
          have HVS := Lib.hid hvs
          have HVA := Lib.hid hva
          have hvl := hva.len
          have hbE : Below wb.heap.size wb (wb.alloc (.cells #[] 26)) := (Below.refl _ _).alloc (Nat.le_refl _) _
          have HE0 := Lib.hid (show (wb.alloc (.cells #[] 26)).ownsRow wb.heap.size 26 1 (.slice (some ⟨wb.heap.size, 0, none⟩) 0 0) 0 [] from
            ⟨rfl, .inr ⟨wb.heap.size, 0, #[], rfl, Nat.le_refl _, heap_alloc_new _ _, Nat.le_refl _, by unfold maxLen; omega, rfl, rfl⟩⟩)
          have HSE := Lib.hid ((Sl.of_owns hvs).below hbE (Nat.le_refl _))
          have HBE := Lib.hid hbE
          have HBW := Lib.hid GB.out.gd.bel
          have HLC := Lib.hid (show vs.length ≤ 8 from by rw [hvl]; exact hLL.out.2.1)
          obtain ⟨i0, hi, hz0, hz1, hz2⟩ := info_parts infoTB
          clear hvs hva hvl hbE GB hsv
          go_wp2_with fail
          refine HSM.out.mono ?_
          rintro e wc ⟨rfl, rfl⟩
          go_wp2_with (at_builtin; refine wpList_append_slWS (by rfl) _ _ 27 rfl wb.heap.size 26 i0 (.slice none 0 0) 24 Tryd.underlying27 hi hz0 hz1 hz2 rfl _ 0 [] rfl HE0.out (.slice xa L.length xc) vs rfl HSE.out HVA.out.one (by have := HLC.out; unfold maxLen; omega) (by have := HLC.out; omega) HBE.out.size ?_)
          intro v1 w1' ho1 hg1
          obtain ⟨a1, n1, c1, rfl⟩ : ∃ a n c, v1 = Value.slice a n c := (by obtain ⟨a, c, e, _⟩ := Sl.of_owns ho1; exact ⟨a, _, c, e⟩)
          have hb1 : Below wb.heap.size wb w1' := HBE.out.grown hg1 HBE.out.size (fun k hk => (HE0.out.lt k hk).1)
          have hbF : Below w1'.heap.size w1' (w1'.alloc (.cells #[(.slice la last.length lc)] 26)) := (Below.refl _ _).alloc (Nat.le_refl _) _
          have HO1 := Lib.hid (show (w1'.alloc (.cells #[(.slice la last.length lc)] 26)).ownsRow wb.heap.size 26 1 (.slice a1 n1 c1) vs.length vs from by have h := ownsRow_below ho1 hbF (Nat.le_refl _); simpa using h)
          have HLT := Lib.hid (Sl.lit w1' #[(.slice la last.length lc)] 26 (by simp [maxLen]))
          have HBF := Lib.hid (hb1.trans (hbF.mono hb1.size))
          clear ho1 hg1 hb1 hbF HE0 HSE HBE
          go_wp2_with (at_builtin; refine wpList_append_slWS (by rfl) _ _ 27 rfl wb.heap.size 26 i0 (.slice none 0 0) 24 Tryd.underlying27 hi hz0 hz1 hz2 rfl (.slice a1 n1 c1) vs.length vs rfl HO1.out (.slice (some ⟨w1'.heap.size, 0, none⟩) 1 1) [(.slice la last.length lc)] rfl HLT.out (by simp [Value.oneCell']) (by have := HLC.out; unfold maxLen; simp; omega) (by have := HLC.out; simp; omega) HBF.out.size ?_)
          intro v3' w3' ho3 hg3
          have hb3 : Below wb.heap.size wb w3' := HBF.out.grown hg3 HBF.out.size (fun k hk => (HO1.out.lt k hk).1)
          obtain ⟨a3, n3, c3, rfl⟩ : ∃ a n c, v3' = Value.slice a n c := (by obtain ⟨a, c, e, _⟩ := Sl.of_owns ho3; exact ⟨a, _, c, e⟩)
          have HB3 := Lib.hid (below_trans2 HBW.out hb3)
          have hsl3 : Sls w3' (.slice a3 n3 c3) (L ++ [last]) := by
            have hal := (HVA.out.snoc HUT.out)
            exact ⟨vs ++ [(.slice la last.length lc)], by have h := Sl.of_owns ho3; simpa using h, hal.len, fun i u bs hu hp => (hal.at i u bs hu hp).below HB3.out (Nat.le_refl _)⟩
          have HS2 := Lib.hid (sameTexts_any _ _ _ _ w3' (HXB.out.below hb3).sls hsl3 HIL2.out HIL2.out)
          rw [decide_eq_true rfl] at HS2
          have HAW := Lib.hid (awake08_any w3' (HT.out.below HB3.out))
          clear ho3 hg3 hb3 hsl3 HO1 HLT HBF HXB
          go_wp2_with fail
          refine HS2.out.mono ?_
          rintro e wd ⟨rfl, rfl⟩
          go_wp2_with fail
          refine HAW.out.mono ?_
          rintro e we ⟨rfl, hbe⟩
          have HBD := Lib.hid (below_trans2 HB3.out hbe)
          clear hbe
          go_wp2
          go_ret
          exact ⟨rfl, HBD.out⟩

        · obtain rfl : re = 1 := he
          have HMD := Lib.hid hmd
          clear hmd HREX
          have G0 := G4
          clear G4
          obtain ⟨B6, hL6⟩ := G0.out.gd.lg
          have hbw := G0.out.gd.base b (by simp)
          have HCR := Lib.hid (dcrash_any _ g b rd (.slice ka kn kc) keep hL6.dev (HKS.out.below G0.out.gd.bel (Nat.le_refl _)) (HKS.out.offB hbw))
          clear hL6 B6
          go_wp2_with fail
          refine HCR.out.mono ?_
          rintro e w6 ⟨rfl, hD6, hO6⟩
          have G6 := Lib.hid (G0.out.dev hO6 hD6 (crash_len2 _ _))
          have HFU := Lib.hid (dfuse_any w6 g b (rd.crash keep) R hD6)
          rw [show fuseE (R : Int) = 0 from if_neg (by omega)] at HFU
          clear hD6 hO6 HCR G0
          go_wp2_with fail
          refine HFU.out.mono ?_
          rintro e w7 ⟨rfl, hD7, hO7⟩
          have G7 := Lib.hid (G6.out.dev (hO7.mono (cs := [g, b]) (by simp)) hD7 (fuse_len _ _))
          have HLF := Lib.hid (half_of (d := (rd.crash keep).fuse R) ((fuse_len _ _).trans ((crash_len2 _ _).trans HRD.out)) hD7.ok HRM.out HGL.out HP4.out)
          have HCD := Lib.hid (show ((rd.crash keep).fuse R).dead = false from (fuse_dead _ _).trans rfl)
          have HMO := Lib.hid (HMD.out.fuse (R : Int))
          have HOP := Lib.hid (open_any w7 g b ((rd.crash keep).fuse R) (HT.out.below G7.out.gd.bel) hD7)
          clear hD7 hO7 HFU G6
          go_wp2_with fail
          refine HOP.out.mono ?_
          rintro e w8 ⟨hP8, hO8⟩
          obtain ⟨pa, rfl, hD8⟩ := hP8.any
          have G8 := Lib.hid (G7.out.dev hO8 hD8 (opened_len _))
          have HOT := Lib.hid (open_torn HLF.out HMO.out HCD.out)
          have HM2 := Lib.hid HOT.out.2.1
          have HE8 := Lib.hid HOT.out.1
          clear HOT
          have HD8L := Lib.hid (show ((rd.crash keep).fuse R).opened.1.l.length = 400 from (opened_len _).trans HLF.out.len)
          generalize ((rd.crash keep).fuse R).opened.1 = d8 at *
          generalize ((rd.crash keep).fuse R).opened.2 = er8 at *
          clear hP8 hO8 HOP G7 HMO HLF HCD HMD
          rcases HE8.out with rfl | rfl
          · have hbw8 := G8.out.gd.base b (by simp)
            have HCR := Lib.hid (dcrash_any w8 g b d8 (.slice oa on oc) other hD8 (HOS.out.below G8.out.gd.bel (Nat.le_refl _)) (HOS.out.offB hbw8))
            clear hD8 hbw8
            go_wp2_with fail
            refine HCR.out.mono ?_
            rintro e w9 ⟨rfl, hD9, hO9⟩
            have G9 := Lib.hid (G8.out.dev hO9 hD9 (crash_len2 _ _))
            have HLF := Lib.hid (half_of (d := d8.crash other) ((crash_len2 _ _).trans HD8L.out) hD9.ok HRM.out HGL.out HP4.out)
            have HM3 := Lib.hid (HM2.out.crash other)
            have HOP := Lib.hid (open_any w9 g b (d8.crash other) (HT.out.below G9.out.gd.bel) hD9)
            have HOT := Lib.hid (open_torn HLF.out HM3.out rfl)
            have HEZ := Lib.hid (HOT.out.2.2.2 ⟨rfl, rfl⟩)
            have HLG := Lib.hid HOT.out.2.2.1
            clear HOT
            clear hD9 hO9 HCR G8 HM2 HLF HM3
            go_wp2_with fail
            refine HOP.out.mono ?_
            rintro e wa ⟨hPa, hOa⟩
            obtain ⟨q9, v9, rfl, hq9, hv9, hLa⟩ := hPa.ok HEZ.out
            have GA := Lib.hid (G9.out.dev hOa hLa.dev (opened_len _))
            have HRE := Lib.hid (lrecords_any wa q9 g b _ v9 _ _ hLa)
            rw [HLG.out] at HRE
            clear hPa hOa hq9 hv9 hLa HOP G9
            go_wp2_with fail
            refine HRE.out.mono ?_
            rintro e wb ⟨xb, rfl, hxb, hbb⟩
            obtain ⟨ya, yn, yc, rfl⟩ : ∃ a n c, xb = Value.slice a n c := (by obtain ⟨a, c, e⟩ := hxb.val; exact ⟨a, _, c, e⟩)
            have GB := Lib.hid (GA.out.below hbb)
            have HXB := Lib.hid hxb
            obtain ⟨sa, sc, hsv⟩ := GB.out.su.val
            have HSM := Lib.hid (sameTexts_any _ _ L L wb hxb.sls (GB.out.su.sls GB.out.gd.bel) HIL.out HIL.out)
            clear hxb hbb HRE GA HLG HEZ
            rw [decide_eq_true rfl] at HSM
            have HAW := Lib.hid (awake08_any wb (HT.out.below GB.out.gd.bel))
            have HBW := Lib.hid GB.out.gd.bel
            clear HXB GB hsv
            go_wp2_with fail
            refine HSM.out.mono ?_
            rintro e wc ⟨rfl, rfl⟩
            go_wp2_with fail
            refine HAW.out.mono ?_
            rintro e wd ⟨rfl, hbd⟩
            have HBD := Lib.hid (below_trans2 HBW.out hbd)
            clear hbd
            go_wp2
            go_ret
            exact ⟨rfl, HBD.out⟩

          · have hbw8 := G8.out.gd.base b (by simp)
            have HCR := Lib.hid (dcrash_any w8 g b d8 (.slice oa on oc) other hD8 (HOS.out.below G8.out.gd.bel (Nat.le_refl _)) (HOS.out.offB hbw8))
            clear hD8 hbw8
            go_wp2_with fail
            refine HCR.out.mono ?_
            rintro e w9 ⟨rfl, hD9, hO9⟩
            have G9 := Lib.hid (G8.out.dev hO9 hD9 (crash_len2 _ _))
            have HLF := Lib.hid (half_of (d := d8.crash other) ((crash_len2 _ _).trans HD8L.out) hD9.ok HRM.out HGL.out HP4.out)
            have HM3 := Lib.hid (HM2.out.crash other)
            have HOP := Lib.hid (open_any w9 g b (d8.crash other) (HT.out.below G9.out.gd.bel) hD9)
            have HOT := Lib.hid (open_torn HLF.out HM3.out rfl)
            have HEZ := Lib.hid (HOT.out.2.2.2 ⟨rfl, rfl⟩)
            have HLG := Lib.hid HOT.out.2.2.1
            clear HOT
            clear hD9 hO9 HCR G8 HM2 HLF HM3
            go_wp2_with fail
            refine HOP.out.mono ?_
            rintro e wa ⟨hPa, hOa⟩
            obtain ⟨q9, v9, rfl, hq9, hv9, hLa⟩ := hPa.ok HEZ.out
            have GA := Lib.hid (G9.out.dev hOa hLa.dev (opened_len _))
            have HRE := Lib.hid (lrecords_any wa q9 g b _ v9 _ _ hLa)
            rw [HLG.out] at HRE
            clear hPa hOa hq9 hv9 hLa HOP G9
            go_wp2_with fail
            refine HRE.out.mono ?_
            rintro e wb ⟨xb, rfl, hxb, hbb⟩
            obtain ⟨ya, yn, yc, rfl⟩ : ∃ a n c, xb = Value.slice a n c := (by obtain ⟨a, c, e⟩ := hxb.val; exact ⟨a, _, c, e⟩)
            have GB := Lib.hid (GA.out.below hbb)
            have HXB := Lib.hid hxb
            obtain ⟨sa, sc, hsv⟩ := GB.out.su.val
            have HSM := Lib.hid (sameTexts_any _ _ L L wb hxb.sls (GB.out.su.sls GB.out.gd.bel) HIL.out HIL.out)
            clear hxb hbb HRE GA HLG HEZ
            rw [decide_eq_true rfl] at HSM
            have HAW := Lib.hid (awake08_any wb (HT.out.below GB.out.gd.bel))
            have HBW := Lib.hid GB.out.gd.bel
            clear HXB GB hsv
            go_wp2_with fail
            refine HSM.out.mono ?_
            rintro e wc ⟨rfl, rfl⟩
            go_wp2_with fail
            refine HAW.out.mono ?_
            rintro e wd ⟨rfl, hbd⟩
            have HBD := Lib.hid (below_trans2 HBW.out hbd)
            clear hbd
            go_wp2
            go_ret
            exact ⟨rfl, HBD.out⟩



      · have h7b : (2000 : Int) < (last.length : Int) := by omega
        have h7c : (2000 : Int) ≤ (lc : Int) := by omega
        have hl7 : 2000 ≤ (last.map (Value.int .u8)).length := by rw [List.length_map]; omega
        have HL7 := Lib.hid hl7
        clear hl7 h20
        have HUT := Lib.hid (show Sl w (.slice la 2000 lc) ((last.take 2000).map (Value.int .u8)) from by rw [List.map_take]; exact HLS.out.take 2000 HL7.out)
        have HPB2 := Lib.hid (show IsB (last.take 2000) from HLB.out.take 2000)
        have HP2K := Lib.hid (show (last.take 2000).length ≤ 2000 from by rw [List.length_take]; omega)
        have HP4 := Lib.hid (Nat.le_trans HP2K.out (show 2000 ≤ 4000 by decide))
        have HRM := Lib.hid (show (logL L).length + (laidI ((L.length : Int) + 1) (last.take 2000)).length ≤ 400 from by
          have h1 := logL_short hLL.out.2.2.2
          have h2 := hLL.out.2.1
          have h3 := HP2K.out
          rw [laidI_len]
          omega)
        have HGL := Lib.hid hPh.out.1.good
        have HIL := Lib.hid hLL.out.2.2.1
        have HIL2 := Lib.hid (show ∀ y ∈ L ++ [(last.take 2000)], IsB y from fun y hy => by
          rcases List.mem_append.1 hy with h1 | h1
          · exact hLL.out.2.2.1 y h1
          · rw [List.mem_singleton.1 h1]; exact HPB2.out)
        obtain ⟨B, hL⟩ := G3.out.gd.lg
        have HAP := Lib.hid (append_any w3 q g b B v2 s (d.fuse M) (.slice la 2000 lc) (last.take 2000) hL HPB2.out (HT.out.below G3.out.gd.bel) (G3.out.gd.sl (Only.refl _ _) HUT.out) (fun w' ho => G3.out.gd.sl ho HUT.out))
        have HCRS := Lib.hid (fun hok => app_crash (bs := (last.take 2000)) (hPh.out.1.fuse (M : Int)) HP4.out HRM.out hok keep)
        clear hL
        go_wp2_with fail
        refine HAP.out.mono ?_
        intro e w4 hA
        obtain ⟨v4, rfl, hG4⟩ := G3.out.app hA
        have G4 := Lib.hid hG4
        have HRES := Lib.hid (HCRS.out hG4.devOf.ok)
        clear hA hG4 HAP HCRS G3
        generalize appD s (d.fuse M) (last.take 2000) = r at *
        obtain ⟨rs, rd, re⟩ := r
        have HRD := Lib.hid (show rd.l.length = 400 from HRES.out.1)
        have HREX := Lib.hid HRES.out.2
        clear HRES
        rcases HREX.out with ⟨he, hmd⟩ | ⟨he, hmd | hmd⟩ | ⟨he, hmd⟩
        · obtain rfl : re = 0 := he
          have HMD := Lib.hid hmd
          clear hmd HREX
          have hbA : Below w4.heap.size w4 (w4.alloc (.cells #[(.slice la 2000 lc)] 26)) := (Below.refl _ _).alloc (Nat.le_refl _) _
          have GA := Lib.hid (G4.out.below hbA)
          have HCA := Lib.hid ((Blk.new w4 26 #[(.slice la 2000 lc)]).cell 0)
          have HL1 := Lib.hid (show L.length + 1 ≤ 5000000000000 from by have := hLL.out.2.1; omega)
          clear hbA G4
          go_wp2_with (at_builtin; refine wpList_append_su (by rfl) _ _ rfl (.slice xa L.length xc) L rfl GA.out.su w4.heap.size 1 rfl (.slice la 2000 lc) HCA.out (last.take 2000) HUT.out HL1.out GA.out.gd.bel.size ?_)
          intro v5 w5 hs5 hb5 ho5 hw5
          have G0 := Lib.hid (GA.out.grow hs5 hb5 ho5 (by simpa using hw5))
          obtain ⟨xa5, xn5, xc5, rfl⟩ : ∃ a n c, v5 = Value.slice a n c := (by obtain ⟨a, c, e⟩ := hs5.val; exact ⟨a, _, c, e⟩)
          clear hs5 hb5 ho5 hw5 GA HCA
          obtain ⟨B6, hL6⟩ := G0.out.gd.lg
          have hbw := G0.out.gd.base b (by simp)
          have HCR := Lib.hid (dcrash_any _ g b rd (.slice ka kn kc) keep hL6.dev (HKS.out.below G0.out.gd.bel (Nat.le_refl _)) (HKS.out.offB hbw))
          clear hL6 B6
          go_wp2_with fail
          refine HCR.out.mono ?_
          rintro e w6 ⟨rfl, hD6, hO6⟩
          have G6 := Lib.hid (G0.out.dev hO6 hD6 (crash_len2 _ _))
          have HFU := Lib.hid (dfuse_any w6 g b (rd.crash keep) R hD6)
          rw [show fuseE (R : Int) = 0 from if_neg (by omega)] at HFU
          clear hD6 hO6 HCR G0
          go_wp2_with fail
          refine HFU.out.mono ?_
          rintro e w7 ⟨rfl, hD7, hO7⟩
          have G7 := Lib.hid (G6.out.dev (hO7.mono (cs := [g, b]) (by simp)) hD7 (fuse_len _ _))
          have HLF := Lib.hid (half_of (d := (rd.crash keep).fuse R) ((fuse_len _ _).trans ((crash_len2 _ _).trans HRD.out)) hD7.ok HRM.out HGL.out HP4.out)
          have HCD := Lib.hid (show ((rd.crash keep).fuse R).dead = false from (fuse_dead _ _).trans rfl)
          have HMO := Lib.hid (HMD.out.fuse (R : Int))
          have HOP := Lib.hid (open_any w7 g b ((rd.crash keep).fuse R) (HT.out.below G7.out.gd.bel) hD7)
          clear hD7 hO7 HFU G6
          go_wp2_with fail
          refine HOP.out.mono ?_
          rintro e w8 ⟨hP8, hO8⟩
          obtain ⟨pa, rfl, hD8⟩ := hP8.any
          have G8 := Lib.hid (G7.out.dev hO8 hD8 (opened_len _))
          have HOT := Lib.hid (open_whole HLF.out HMO.out HCD.out)
          rw [HOT.out.1] at hD8 G8 ⊢
          have HM2 := Lib.hid HMO.out
          have HD8L := Lib.hid HLF.out.len
          generalize ((rd.crash keep).fuse R) = d8 at *
          clear hP8 hO8 HOP G7 HMO HLF HCD HMD HOT
          have hbw8 := G8.out.gd.base b (by simp)
          have HCR := Lib.hid (dcrash_any w8 g b d8 (.slice oa on oc) other hD8 (HOS.out.below G8.out.gd.bel (Nat.le_refl _)) (HOS.out.offB hbw8))
          clear hD8 hbw8
          go_wp2_with fail
          refine HCR.out.mono ?_
          rintro e w9 ⟨rfl, hD9, hO9⟩
          have G9 := Lib.hid (G8.out.dev hO9 hD9 (crash_len2 _ _))
          have HLF := Lib.hid (half_of (d := d8.crash other) ((crash_len2 _ _).trans HD8L.out) hD9.ok HRM.out HGL.out HP4.out)
          have HM3 := Lib.hid (HM2.out.crash other)
          have HOP := Lib.hid (open_any w9 g b (d8.crash other) (HT.out.below G9.out.gd.bel) hD9)
          have HOT := Lib.hid (open_whole HLF.out HM3.out rfl)
          have HEZ := Lib.hid (show (d8.crash other).opened.2 = 0 from by rw [HOT.out.1])
          have HLG := Lib.hid HOT.out.2
          clear HOT
          clear hD9 hO9 HCR G8 HM2 HLF HM3
          go_wp2_with fail
          refine HOP.out.mono ?_
          rintro e wa ⟨hPa, hOa⟩
          obtain ⟨q9, v9, rfl, hq9, hv9, hLa⟩ := hPa.ok HEZ.out
          have GA := Lib.hid (G9.out.dev hOa hLa.dev (opened_len _))
          have HRE := Lib.hid (lrecords_any wa q9 g b _ v9 _ _ hLa)
          rw [HLG.out] at HRE
          clear hPa hOa hq9 hv9 hLa HOP G9
          go_wp2_with fail
          refine HRE.out.mono ?_
          rintro e wb ⟨xb, rfl, hxb, hbb⟩
          obtain ⟨ya, yn, yc, rfl⟩ : ∃ a n c, xb = Value.slice a n c := (by obtain ⟨a, c, e⟩ := hxb.val; exact ⟨a, _, c, e⟩)
          have GB := Lib.hid (GA.out.below hbb)
          have HXB := Lib.hid hxb
          obtain ⟨sa, sc, hsv⟩ := GB.out.su.val
          have HSM := Lib.hid (sameTexts_any _ _ (L ++ [(last.take 2000)]) (L ++ [(last.take 2000)]) wb hxb.sls (GB.out.su.sls GB.out.gd.bel) HIL2.out HIL2.out)
          clear hxb hbb HRE GA HLG HEZ
          rw [decide_eq_true rfl] at HSM
          have HAW := Lib.hid (awake08_any wb (HT.out.below GB.out.gd.bel))
          have HBW := Lib.hid GB.out.gd.bel
          clear HXB GB hsv
          go_wp2_with fail
          refine HSM.out.mono ?_
          rintro e wc ⟨rfl, rfl⟩
          go_wp2_with fail
          refine HAW.out.mono ?_
          rintro e wd ⟨rfl, hbd⟩
          have HBD := Lib.hid (below_trans2 HBW.out hbd)
          clear hbd
          go_wp2
          go_ret
          exact ⟨rfl, HBD.out⟩

        · obtain rfl : re = 70 := he
          have HMD := Lib.hid hmd
          clear hmd HREX
          have G0 := G4
          clear G4
          obtain ⟨B6, hL6⟩ := G0.out.gd.lg
          have hbw := G0.out.gd.base b (by simp)
          have HCR := Lib.hid (dcrash_any _ g b rd (.slice ka kn kc) keep hL6.dev (HKS.out.below G0.out.gd.bel (Nat.le_refl _)) (HKS.out.offB hbw))
          clear hL6 B6
          go_wp2_with fail
          refine HCR.out.mono ?_
          rintro e w6 ⟨rfl, hD6, hO6⟩
          have G6 := Lib.hid (G0.out.dev hO6 hD6 (crash_len2 _ _))
          have HFU := Lib.hid (dfuse_any w6 g b (rd.crash keep) R hD6)
          rw [show fuseE (R : Int) = 0 from if_neg (by omega)] at HFU
          clear hD6 hO6 HCR G0
          go_wp2_with fail
          refine HFU.out.mono ?_
          rintro e w7 ⟨rfl, hD7, hO7⟩
          have G7 := Lib.hid (G6.out.dev (hO7.mono (cs := [g, b]) (by simp)) hD7 (fuse_len _ _))
          have HLF := Lib.hid (half_of (d := (rd.crash keep).fuse R) ((fuse_len _ _).trans ((crash_len2 _ _).trans HRD.out)) hD7.ok HRM.out HGL.out HP4.out)
          have HCD := Lib.hid (show ((rd.crash keep).fuse R).dead = false from (fuse_dead _ _).trans rfl)
          have HMO := Lib.hid (HMD.out.fuse (R : Int))
          have HOP := Lib.hid (open_any w7 g b ((rd.crash keep).fuse R) (HT.out.below G7.out.gd.bel) hD7)
          clear hD7 hO7 HFU G6
          go_wp2_with fail
          refine HOP.out.mono ?_
          rintro e w8 ⟨hP8, hO8⟩
          obtain ⟨pa, rfl, hD8⟩ := hP8.any
          have G8 := Lib.hid (G7.out.dev hO8 hD8 (opened_len _))
          have HOT := Lib.hid (open_torn HLF.out HMO.out HCD.out)
          have HM2 := Lib.hid HOT.out.2.1
          have HE8 := Lib.hid HOT.out.1
          clear HOT
          have HD8L := Lib.hid (show ((rd.crash keep).fuse R).opened.1.l.length = 400 from (opened_len _).trans HLF.out.len)
          generalize ((rd.crash keep).fuse R).opened.1 = d8 at *
          generalize ((rd.crash keep).fuse R).opened.2 = er8 at *
          clear hP8 hO8 HOP G7 HMO HLF HCD HMD
          rcases HE8.out with rfl | rfl
          · have hbw8 := G8.out.gd.base b (by simp)
            have HCR := Lib.hid (dcrash_any w8 g b d8 (.slice oa on oc) other hD8 (HOS.out.below G8.out.gd.bel (Nat.le_refl _)) (HOS.out.offB hbw8))
            clear hD8 hbw8
            go_wp2_with fail
            refine HCR.out.mono ?_
            rintro e w9 ⟨rfl, hD9, hO9⟩
            have G9 := Lib.hid (G8.out.dev hO9 hD9 (crash_len2 _ _))
            have HLF := Lib.hid (half_of (d := d8.crash other) ((crash_len2 _ _).trans HD8L.out) hD9.ok HRM.out HGL.out HP4.out)
            have HM3 := Lib.hid (HM2.out.crash other)
            have HOP := Lib.hid (open_any w9 g b (d8.crash other) (HT.out.below G9.out.gd.bel) hD9)
            have HOT := Lib.hid (open_torn HLF.out HM3.out rfl)
            have HEZ := Lib.hid (HOT.out.2.2.2 ⟨rfl, rfl⟩)
            have HLG := Lib.hid HOT.out.2.2.1
            clear HOT
            clear hD9 hO9 HCR G8 HM2 HLF HM3
            go_wp2_with fail
            refine HOP.out.mono ?_
            rintro e wa ⟨hPa, hOa⟩
            obtain ⟨q9, v9, rfl, hq9, hv9, hLa⟩ := hPa.ok HEZ.out
            have GA := Lib.hid (G9.out.dev hOa hLa.dev (opened_len _))
            have HRE := Lib.hid (lrecords_any wa q9 g b _ v9 _ _ hLa)
            rw [HLG.out] at HRE
            clear hPa hOa hq9 hv9 hLa HOP G9
            go_wp2_with fail
            refine HRE.out.mono ?_
            rintro e wb ⟨xb, rfl, hxb, hbb⟩
            obtain ⟨ya, yn, yc, rfl⟩ : ∃ a n c, xb = Value.slice a n c := (by obtain ⟨a, c, e⟩ := hxb.val; exact ⟨a, _, c, e⟩)
            have GB := Lib.hid (GA.out.below hbb)
            have HXB := Lib.hid hxb
            obtain ⟨sa, sc, hsv⟩ := GB.out.su.val
            have HSM := Lib.hid (sameTexts_any _ _ L L wb hxb.sls (GB.out.su.sls GB.out.gd.bel) HIL.out HIL.out)
            clear hxb hbb HRE GA HLG HEZ
            rw [decide_eq_true rfl] at HSM
            have HAW := Lib.hid (awake08_any wb (HT.out.below GB.out.gd.bel))
            have HBW := Lib.hid GB.out.gd.bel
            clear HXB GB hsv
            go_wp2_with fail
            refine HSM.out.mono ?_
            rintro e wc ⟨rfl, rfl⟩
            go_wp2_with fail
            refine HAW.out.mono ?_
            rintro e wd ⟨rfl, hbd⟩
            have HBD := Lib.hid (below_trans2 HBW.out hbd)
            clear hbd
            go_wp2
            go_ret
            exact ⟨rfl, HBD.out⟩

          · have hbw8 := G8.out.gd.base b (by simp)
            have HCR := Lib.hid (dcrash_any w8 g b d8 (.slice oa on oc) other hD8 (HOS.out.below G8.out.gd.bel (Nat.le_refl _)) (HOS.out.offB hbw8))
            clear hD8 hbw8
            go_wp2_with fail
            refine HCR.out.mono ?_
            rintro e w9 ⟨rfl, hD9, hO9⟩
            have G9 := Lib.hid (G8.out.dev hO9 hD9 (crash_len2 _ _))
            have HLF := Lib.hid (half_of (d := d8.crash other) ((crash_len2 _ _).trans HD8L.out) hD9.ok HRM.out HGL.out HP4.out)
            have HM3 := Lib.hid (HM2.out.crash other)
            have HOP := Lib.hid (open_any w9 g b (d8.crash other) (HT.out.below G9.out.gd.bel) hD9)
            have HOT := Lib.hid (open_torn HLF.out HM3.out rfl)
            have HEZ := Lib.hid (HOT.out.2.2.2 ⟨rfl, rfl⟩)
            have HLG := Lib.hid HOT.out.2.2.1
            clear HOT
            clear hD9 hO9 HCR G8 HM2 HLF HM3
            go_wp2_with fail
            refine HOP.out.mono ?_
            rintro e wa ⟨hPa, hOa⟩
            obtain ⟨q9, v9, rfl, hq9, hv9, hLa⟩ := hPa.ok HEZ.out
            have GA := Lib.hid (G9.out.dev hOa hLa.dev (opened_len _))
            have HRE := Lib.hid (lrecords_any wa q9 g b _ v9 _ _ hLa)
            rw [HLG.out] at HRE
            clear hPa hOa hq9 hv9 hLa HOP G9
            go_wp2_with fail
            refine HRE.out.mono ?_
            rintro e wb ⟨xb, rfl, hxb, hbb⟩
            obtain ⟨ya, yn, yc, rfl⟩ : ∃ a n c, xb = Value.slice a n c := (by obtain ⟨a, c, e⟩ := hxb.val; exact ⟨a, _, c, e⟩)
            have GB := Lib.hid (GA.out.below hbb)
            have HXB := Lib.hid hxb
            obtain ⟨sa, sc, hsv⟩ := GB.out.su.val
            have HSM := Lib.hid (sameTexts_any _ _ L L wb hxb.sls (GB.out.su.sls GB.out.gd.bel) HIL.out HIL.out)
            clear hxb hbb HRE GA HLG HEZ
            rw [decide_eq_true rfl] at HSM
            have HAW := Lib.hid (awake08_any wb (HT.out.below GB.out.gd.bel))
            have HBW := Lib.hid GB.out.gd.bel
            clear HXB GB hsv
            go_wp2_with fail
            refine HSM.out.mono ?_
            rintro e wc ⟨rfl, rfl⟩
            go_wp2_with fail
            refine HAW.out.mono ?_
            rintro e wd ⟨rfl, hbd⟩
            have HBD := Lib.hid (below_trans2 HBW.out hbd)
            clear hbd
            go_wp2
            go_ret
            exact ⟨rfl, HBD.out⟩


        · obtain rfl : re = 70 := he
          have HMD := Lib.hid hmd
          clear hmd HREX
          have G0 := G4
          clear G4
          obtain ⟨B6, hL6⟩ := G0.out.gd.lg
          have hbw := G0.out.gd.base b (by simp)
          have HCR := Lib.hid (dcrash_any _ g b rd (.slice ka kn kc) keep hL6.dev (HKS.out.below G0.out.gd.bel (Nat.le_refl _)) (HKS.out.offB hbw))
          clear hL6 B6
          go_wp2_with fail
          refine HCR.out.mono ?_
          rintro e w6 ⟨rfl, hD6, hO6⟩
          have G6 := Lib.hid (G0.out.dev hO6 hD6 (crash_len2 _ _))
          have HFU := Lib.hid (dfuse_any w6 g b (rd.crash keep) R hD6)
          rw [show fuseE (R : Int) = 0 from if_neg (by omega)] at HFU
          clear hD6 hO6 HCR G0
          go_wp2_with fail
          refine HFU.out.mono ?_
          rintro e w7 ⟨rfl, hD7, hO7⟩
          have G7 := Lib.hid (G6.out.dev (hO7.mono (cs := [g, b]) (by simp)) hD7 (fuse_len _ _))
          have HLF := Lib.hid (half_of (d := (rd.crash keep).fuse R) ((fuse_len _ _).trans ((crash_len2 _ _).trans HRD.out)) hD7.ok HRM.out HGL.out HP4.out)
          have HCD := Lib.hid (show ((rd.crash keep).fuse R).dead = false from (fuse_dead _ _).trans rfl)
          have HMO := Lib.hid (HMD.out.fuse (R : Int))
          have HOP := Lib.hid (open_any w7 g b ((rd.crash keep).fuse R) (HT.out.below G7.out.gd.bel) hD7)
          clear hD7 hO7 HFU G6
          go_wp2_with fail
          refine HOP.out.mono ?_
          rintro e w8 ⟨hP8, hO8⟩
          obtain ⟨pa, rfl, hD8⟩ := hP8.any
          have G8 := Lib.hid (G7.out.dev hO8 hD8 (opened_len _))
          have HOT := Lib.hid (open_whole HLF.out HMO.out HCD.out)
          rw [HOT.out.1] at hD8 G8 ⊢
          have HM2 := Lib.hid HMO.out
          have HD8L := Lib.hid HLF.out.len
          generalize ((rd.crash keep).fuse R) = d8 at *
          clear hP8 hO8 HOP G7 HMO HLF HCD HMD HOT
          have hbw8 := G8.out.gd.base b (by simp)
          have HCR := Lib.hid (dcrash_any w8 g b d8 (.slice oa on oc) other hD8 (HOS.out.below G8.out.gd.bel (Nat.le_refl _)) (HOS.out.offB hbw8))
          clear hD8 hbw8
          go_wp2_with fail
          refine HCR.out.mono ?_
          rintro e w9 ⟨rfl, hD9, hO9⟩
          have G9 := Lib.hid (G8.out.dev hO9 hD9 (crash_len2 _ _))
          have HLF := Lib.hid (half_of (d := d8.crash other) ((crash_len2 _ _).trans HD8L.out) hD9.ok HRM.out HGL.out HP4.out)
          have HM3 := Lib.hid (HM2.out.crash other)
          have HOP := Lib.hid (open_any w9 g b (d8.crash other) (HT.out.below G9.out.gd.bel) hD9)
          have HOT := Lib.hid (open_whole HLF.out HM3.out rfl)
          have HEZ := Lib.hid (show (d8.crash other).opened.2 = 0 from by rw [HOT.out.1])
          have HLG := Lib.hid HOT.out.2
          clear HOT
          clear hD9 hO9 HCR G8 HM2 HLF HM3
          go_wp2_with fail
          refine HOP.out.mono ?_
          rintro e wa ⟨hPa, hOa⟩
          obtain ⟨q9, v9, rfl, hq9, hv9, hLa⟩ := hPa.ok HEZ.out
          have GA := Lib.hid (G9.out.dev hOa hLa.dev (opened_len _))
          have HRE := Lib.hid (lrecords_any wa q9 g b _ v9 _ _ hLa)
          rw [HLG.out] at HRE
          clear hPa hOa hq9 hv9 hLa HOP G9
          go_wp2_with fail
          refine HRE.out.mono ?_
          rintro e wb ⟨xb, rfl, hxb, hbb⟩
          obtain ⟨ya, yn, yc, rfl⟩ : ∃ a n c, xb = Value.slice a n c := (by obtain ⟨a, c, e⟩ := hxb.val; exact ⟨a, _, c, e⟩)
          have GB := Lib.hid (GA.out.below hbb)
          have HXB := Lib.hid hxb
          obtain ⟨sa, sc, hsv⟩ := GB.out.su.val
          have HSM := Lib.hid (sameTexts_any _ _ (L ++ [(last.take 2000)]) L wb hxb.sls (GB.out.su.sls GB.out.gd.bel) HIL2.out HIL.out)
          clear hxb hbb HRE GA HLG HEZ
          rw [decide_eq_false (show ¬ L ++ [(last.take 2000)] = L from fun e => by have := congrArg List.length e; simp at this)] at HSM
          obtain ⟨vs, hvs, hva⟩ := GB.out.su.row
          have HVS := Lib.hid hvs
          have HVA := Lib.hid hva
          have hvl := hva.len
          have hbE : Below wb.heap.size wb (wb.alloc (.cells #[] 26)) := (Below.refl _ _).alloc (Nat.le_refl _) _
          have HE0 := Lib.hid (show (wb.alloc (.cells #[] 26)).ownsRow wb.heap.size 26 1 (.slice (some ⟨wb.heap.size, 0, none⟩) 0 0) 0 [] from
            ⟨rfl, .inr ⟨wb.heap.size, 0, #[], rfl, Nat.le_refl _, heap_alloc_new _ _, Nat.le_refl _, by unfold maxLen; omega, rfl, rfl⟩⟩)
          have HSE := Lib.hid ((Sl.of_owns hvs).below hbE (Nat.le_refl _))
          have HBE := Lib.hid hbE
          have HBW := Lib.hid GB.out.gd.bel
          have HLC := Lib.hid (show vs.length ≤ 8 from by rw [hvl]; exact hLL.out.2.1)
          obtain ⟨i0, hi, hz0, hz1, hz2⟩ := info_parts infoTB
          clear hvs hva hvl hbE GB hsv
          go_wp2_with fail
          refine HSM.out.mono ?_
          rintro e wc ⟨rfl, rfl⟩
          go_wp2_with (at_builtin; refine wpList_append_slWS (by rfl) _ _ 27 rfl wb.heap.size 26 i0 (.slice none 0 0) 24 Tryd.underlying27 hi hz0 hz1 hz2 rfl _ 0 [] rfl HE0.out (.slice xa L.length xc) vs rfl HSE.out HVA.out.one (by have := HLC.out; unfold maxLen; omega) (by have := HLC.out; omega) HBE.out.size ?_)
          intro v1 w1' ho1 hg1
          obtain ⟨a1, n1, c1, rfl⟩ : ∃ a n c, v1 = Value.slice a n c := (by obtain ⟨a, c, e, _⟩ := Sl.of_owns ho1; exact ⟨a, _, c, e⟩)
          have hb1 : Below wb.heap.size wb w1' := HBE.out.grown hg1 HBE.out.size (fun k hk => (HE0.out.lt k hk).1)
          have hbF : Below w1'.heap.size w1' (w1'.alloc (.cells #[(.slice la 2000 lc)] 26)) := (Below.refl _ _).alloc (Nat.le_refl _) _
          have HO1 := Lib.hid (show (w1'.alloc (.cells #[(.slice la 2000 lc)] 26)).ownsRow wb.heap.size 26 1 (.slice a1 n1 c1) vs.length vs from by have h := ownsRow_below ho1 hbF (Nat.le_refl _); simpa using h)
          have HLT := Lib.hid (Sl.lit w1' #[(.slice la 2000 lc)] 26 (by simp [maxLen]))
          have HBF := Lib.hid (hb1.trans (hbF.mono hb1.size))
          clear ho1 hg1 hb1 hbF HE0 HSE HBE
          go_wp2_with (at_builtin; refine wpList_append_slWS (by rfl) _ _ 27 rfl wb.heap.size 26 i0 (.slice none 0 0) 24 Tryd.underlying27 hi hz0 hz1 hz2 rfl (.slice a1 n1 c1) vs.length vs rfl HO1.out (.slice (some ⟨w1'.heap.size, 0, none⟩) 1 1) [(.slice la 2000 lc)] rfl HLT.out (by simp [Value.oneCell']) (by have := HLC.out; unfold maxLen; simp; omega) (by have := HLC.out; simp; omega) HBF.out.size ?_)
          intro v3' w3' ho3 hg3
          have hb3 : Below wb.heap.size wb w3' := HBF.out.grown hg3 HBF.out.size (fun k hk => (HO1.out.lt k hk).1)
          obtain ⟨a3, n3, c3, rfl⟩ : ∃ a n c, v3' = Value.slice a n c := (by obtain ⟨a, c, e, _⟩ := Sl.of_owns ho3; exact ⟨a, _, c, e⟩)
          have HB3 := Lib.hid (below_trans2 HBW.out hb3)
          have hsl3 : Sls w3' (.slice a3 n3 c3) (L ++ [(last.take 2000)]) := by
            have hal := (HVA.out.snoc HUT.out)
            exact ⟨vs ++ [(.slice la 2000 lc)], by have h := Sl.of_owns ho3; simpa using h, hal.len, fun i u bs hu hp => (hal.at i u bs hu hp).below HB3.out (Nat.le_refl _)⟩
          have HS2 := Lib.hid (sameTexts_any _ _ _ _ w3' (HXB.out.below hb3).sls hsl3 HIL2.out HIL2.out)
          rw [decide_eq_true rfl] at HS2
          have HAW := Lib.hid (awake08_any w3' (HT.out.below HB3.out))
          clear ho3 hg3 hb3 hsl3 HO1 HLT HBF HXB
          go_wp2_with fail
          refine HS2.out.mono ?_
          rintro e wd ⟨rfl, rfl⟩
          go_wp2_with fail
          refine HAW.out.mono ?_
          rintro e we ⟨rfl, hbe⟩
          have HBD := Lib.hid (below_trans2 HB3.out hbe)
          clear hbe
          go_wp2
          go_ret
          exact ⟨rfl, HBD.out⟩

        · obtain rfl : re = 1 := he
          have HMD := Lib.hid hmd
          clear hmd HREX
          have G0 := G4
          clear G4
          obtain ⟨B6, hL6⟩ := G0.out.gd.lg
          have hbw := G0.out.gd.base b (by simp)
          have HCR := Lib.hid (dcrash_any _ g b rd (.slice ka kn kc) keep hL6.dev (HKS.out.below G0.out.gd.bel (Nat.le_refl _)) (HKS.out.offB hbw))
          clear hL6 B6
          go_wp2_with fail
          refine HCR.out.mono ?_
          rintro e w6 ⟨rfl, hD6, hO6⟩
          have G6 := Lib.hid (G0.out.dev hO6 hD6 (crash_len2 _ _))
          have HFU := Lib.hid (dfuse_any w6 g b (rd.crash keep) R hD6)
          rw [show fuseE (R : Int) = 0 from if_neg (by omega)] at HFU
          clear hD6 hO6 HCR G0
          go_wp2_with fail
          refine HFU.out.mono ?_
          rintro e w7 ⟨rfl, hD7, hO7⟩
          have G7 := Lib.hid (G6.out.dev (hO7.mono (cs := [g, b]) (by simp)) hD7 (fuse_len _ _))
          have HLF := Lib.hid (half_of (d := (rd.crash keep).fuse R) ((fuse_len _ _).trans ((crash_len2 _ _).trans HRD.out)) hD7.ok HRM.out HGL.out HP4.out)
          have HCD := Lib.hid (show ((rd.crash keep).fuse R).dead = false from (fuse_dead _ _).trans rfl)
          have HMO := Lib.hid (HMD.out.fuse (R : Int))
          have HOP := Lib.hid (open_any w7 g b ((rd.crash keep).fuse R) (HT.out.below G7.out.gd.bel) hD7)
          clear hD7 hO7 HFU G6
          go_wp2_with fail
          refine HOP.out.mono ?_
          rintro e w8 ⟨hP8, hO8⟩
          obtain ⟨pa, rfl, hD8⟩ := hP8.any
          have G8 := Lib.hid (G7.out.dev hO8 hD8 (opened_len _))
          have HOT := Lib.hid (open_torn HLF.out HMO.out HCD.out)
          have HM2 := Lib.hid HOT.out.2.1
          have HE8 := Lib.hid HOT.out.1
          clear HOT
          have HD8L := Lib.hid (show ((rd.crash keep).fuse R).opened.1.l.length = 400 from (opened_len _).trans HLF.out.len)
          generalize ((rd.crash keep).fuse R).opened.1 = d8 at *
          generalize ((rd.crash keep).fuse R).opened.2 = er8 at *
          clear hP8 hO8 HOP G7 HMO HLF HCD HMD
          rcases HE8.out with rfl | rfl
          · have hbw8 := G8.out.gd.base b (by simp)
            have HCR := Lib.hid (dcrash_any w8 g b d8 (.slice oa on oc) other hD8 (HOS.out.below G8.out.gd.bel (Nat.le_refl _)) (HOS.out.offB hbw8))
            clear hD8 hbw8
            go_wp2_with fail
            refine HCR.out.mono ?_
            rintro e w9 ⟨rfl, hD9, hO9⟩
            have G9 := Lib.hid (G8.out.dev hO9 hD9 (crash_len2 _ _))
            have HLF := Lib.hid (half_of (d := d8.crash other) ((crash_len2 _ _).trans HD8L.out) hD9.ok HRM.out HGL.out HP4.out)
            have HM3 := Lib.hid (HM2.out.crash other)
            have HOP := Lib.hid (open_any w9 g b (d8.crash other) (HT.out.below G9.out.gd.bel) hD9)
            have HOT := Lib.hid (open_torn HLF.out HM3.out rfl)
            have HEZ := Lib.hid (HOT.out.2.2.2 ⟨rfl, rfl⟩)
            have HLG := Lib.hid HOT.out.2.2.1
            clear HOT
            clear hD9 hO9 HCR G8 HM2 HLF HM3
            go_wp2_with fail
            refine HOP.out.mono ?_
            rintro e wa ⟨hPa, hOa⟩
            obtain ⟨q9, v9, rfl, hq9, hv9, hLa⟩ := hPa.ok HEZ.out
            have GA := Lib.hid (G9.out.dev hOa hLa.dev (opened_len _))
            have HRE := Lib.hid (lrecords_any wa q9 g b _ v9 _ _ hLa)
            rw [HLG.out] at HRE
            clear hPa hOa hq9 hv9 hLa HOP G9
            go_wp2_with fail
            refine HRE.out.mono ?_
            rintro e wb ⟨xb, rfl, hxb, hbb⟩
            obtain ⟨ya, yn, yc, rfl⟩ : ∃ a n c, xb = Value.slice a n c := (by obtain ⟨a, c, e⟩ := hxb.val; exact ⟨a, _, c, e⟩)
            have GB := Lib.hid (GA.out.below hbb)
            have HXB := Lib.hid hxb
            obtain ⟨sa, sc, hsv⟩ := GB.out.su.val
            have HSM := Lib.hid (sameTexts_any _ _ L L wb hxb.sls (GB.out.su.sls GB.out.gd.bel) HIL.out HIL.out)
            clear hxb hbb HRE GA HLG HEZ
            rw [decide_eq_true rfl] at HSM
            have HAW := Lib.hid (awake08_any wb (HT.out.below GB.out.gd.bel))
            have HBW := Lib.hid GB.out.gd.bel
            clear HXB GB hsv
            go_wp2_with fail
            refine HSM.out.mono ?_
            rintro e wc ⟨rfl, rfl⟩
            go_wp2_with fail
            refine HAW.out.mono ?_
            rintro e wd ⟨rfl, hbd⟩
            have HBD := Lib.hid (below_trans2 HBW.out hbd)
            clear hbd
            go_wp2
            go_ret
            exact ⟨rfl, HBD.out⟩

          · have hbw8 := G8.out.gd.base b (by simp)
            have HCR := Lib.hid (dcrash_any w8 g b d8 (.slice oa on oc) other hD8 (HOS.out.below G8.out.gd.bel (Nat.le_refl _)) (HOS.out.offB hbw8))
            clear hD8 hbw8
            go_wp2_with fail
            refine HCR.out.mono ?_
            rintro e w9 ⟨rfl, hD9, hO9⟩
            have G9 := Lib.hid (G8.out.dev hO9 hD9 (crash_len2 _ _))
            have HLF := Lib.hid (half_of (d := d8.crash other) ((crash_len2 _ _).trans HD8L.out) hD9.ok HRM.out HGL.out HP4.out)
            have HM3 := Lib.hid (HM2.out.crash other)
            have HOP := Lib.hid (open_any w9 g b (d8.crash other) (HT.out.below G9.out.gd.bel) hD9)
            have HOT := Lib.hid (open_torn HLF.out HM3.out rfl)
            have HEZ := Lib.hid (HOT.out.2.2.2 ⟨rfl, rfl⟩)
            have HLG := Lib.hid HOT.out.2.2.1
            clear HOT
            clear hD9 hO9 HCR G8 HM2 HLF HM3
            go_wp2_with fail
            refine HOP.out.mono ?_
            rintro e wa ⟨hPa, hOa⟩
            obtain ⟨q9, v9, rfl, hq9, hv9, hLa⟩ := hPa.ok HEZ.out
            have GA := Lib.hid (G9.out.dev hOa hLa.dev (opened_len _))
            have HRE := Lib.hid (lrecords_any wa q9 g b _ v9 _ _ hLa)
            rw [HLG.out] at HRE
            clear hPa hOa hq9 hv9 hLa HOP G9
            go_wp2_with fail
            refine HRE.out.mono ?_
            rintro e wb ⟨xb, rfl, hxb, hbb⟩
            obtain ⟨ya, yn, yc, rfl⟩ : ∃ a n c, xb = Value.slice a n c := (by obtain ⟨a, c, e⟩ := hxb.val; exact ⟨a, _, c, e⟩)
            have GB := Lib.hid (GA.out.below hbb)
            have HXB := Lib.hid hxb
            obtain ⟨sa, sc, hsv⟩ := GB.out.su.val
            have HSM := Lib.hid (sameTexts_any _ _ L L wb hxb.sls (GB.out.su.sls GB.out.gd.bel) HIL.out HIL.out)
            clear hxb hbb HRE GA HLG HEZ
            rw [decide_eq_true rfl] at HSM
            have HAW := Lib.hid (awake08_any wb (HT.out.below GB.out.gd.bel))
            have HBW := Lib.hid GB.out.gd.bel
            clear HXB GB hsv
            go_wp2_with fail
            refine HSM.out.mono ?_
            rintro e wc ⟨rfl, rfl⟩
            go_wp2_with fail
            refine HAW.out.mono ?_
            rintro e wd ⟨rfl, hbd⟩
            have HBD := Lib.hid (below_trans2 HBW.out hbd)
            clear hbd
            go_wp2
            go_ret
            exact ⟨rfl, HBD.out⟩




end Go.Proofs.YtgfkejecigefbaaDoor
