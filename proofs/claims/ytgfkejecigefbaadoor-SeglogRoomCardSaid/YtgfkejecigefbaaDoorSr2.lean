
/- The walk of the law SeglogRoom. Conditions: the tables of SHA are laid. -/
import Derived.Test.YtgfkejecigefbaaDoorSr1
import Derived.Test.YtgfkejecigefbaaDoorDvR
namespace Go.Proofs.YtgfkejecigefbaaDoor
open Go.RowKit
set_option linter.unusedVariables false

theorem mod_place (a k : Int) (hk : 1 ≤ k ∧ k ≤ 100000) : ∃ M : Nat, wrap64 (1 + wrap64 ((IntKind.u64.wrap a).tmod k)) = (M : Int) ∧ 1 ≤ M ∧ (M : Int) ≤ k := by
  have h0 : 0 ≤ IntKind.u64.wrap a := by rw [IntKind.wrap_u64]; omega
  have h1 : (IntKind.u64.wrap a).tmod k = IntKind.u64.wrap a % k := Int.tmod_eq_emod_of_nonneg h0
  have h2 := Int.emod_nonneg (IntKind.u64.wrap a) (show k ≠ 0 by omega)
  have h3 := Int.emod_lt_of_pos (IntKind.u64.wrap a) (show 0 < k by omega)
  rw [h1]
  generalize IntKind.u64.wrap a % k = r at *
  refine ⟨(1 + r).toNat, ?_, by omega, by omega⟩
  unfold wrap64
  omega
theorem mod_place0 (a k : Int) (hk : 1 ≤ k ∧ k ≤ 100000) : ∃ M : Nat, wrap64 ((IntKind.u64.wrap a).tmod k) = (M : Int) ∧ (M : Int) < k := by
  have h0 : 0 ≤ IntKind.u64.wrap a := by rw [IntKind.wrap_u64]; omega
  have h1 : (IntKind.u64.wrap a).tmod k = IntKind.u64.wrap a % k := Int.tmod_eq_emod_of_nonneg h0
  have h2 := Int.emod_nonneg (IntKind.u64.wrap a) (show k ≠ 0 by omega)
  have h3 := Int.emod_lt_of_pos (IntKind.u64.wrap a) (show 0 < k by omega)
  rw [h1]
  generalize IntKind.u64.wrap a % k = r at *
  refine ⟨r.toNat, ?_, by omega⟩
  unfold wrap64
  omega
theorem OBs.only2 {ds : List Nat} {w w' : World} {base : Nat} {v : Value} {pss : List (List Int)} (h : OBs w base v pss) (ho : Only ds w w') (hd : ∀ g ∈ ds, ∀ cur, ¬ Blk w g 5 cur) (hv : ∀ g, v.ownBlock = some g → g ∉ ds) : OBs w' base v pss := by
  obtain ⟨vs, h1, h2⟩ := h
  exact ⟨vs, ho.owns h1 hv, h2.mono fun u p q => q.only ho hd⟩
theorem OBs.low {w : World} {base : Nat} {v : Value} {pss : List (List Int)} (h : OBs w base v pss) {g : Nat} (hg : v.ownBlock = some g) : base ≤ g ∧ g < w.heap.size := by
  obtain ⟨vs, h1, _⟩ := h
  exact h1.lt g hg
theorem Lg.noText {w : World} {q g b B : Nat} {v : Value} {s : LSt} {d : DSt} (h : Lg w q g b B v s d) : ∀ k ∈ q :: g :: b :: v.ownBlock.toList, ∀ cur, ¬ Blk w k 5 cur := by
  intro k hk cur e
  simp only [List.mem_cons, Option.mem_toList] at hk
  rcases hk with rfl | rfl | rfl | hk
  · exact Blk.ne_ e h.blk (by decide) rfl
  · exact (h.dev.noText k (by simp) cur).1 e
  · exact (h.dev.noText k (by simp) cur).1 e
  · exact h.row.noText k (by simp [hk]) cur e
theorem wpList_append_obW {w : World} {ops : Array Oper} {rest : List Oper} {o : Oper} {a : Act} {Q : Exit → Act → World → Prop} (hw : Region.wanted o (yielded ops a.tmps) = true) (s x : Operand)
    (ho : o.op = .call { callee := .builtin .append, args := #[s, x], argTypes := #[27, 27] })
    (base : Nat) (v : Value) (pss : List (List Int)) (hs : a.eval s = v) (hown : OBs w base v pss)
    (b cap : Nat) (hx : a.eval x = .slice (some ⟨b, 0, none⟩) 1 cap) (u : Value) (hc : w.cell? ⟨b, 0, none⟩ = some u) (p : List Int) (hu : OB w base u p)
    (h63 : pss.length + 1 ≤ 5000000000000) (hbase : base ≤ w.heap.size)
    (h : ∀ v' w', OBs w' base v' (pss ++ [p]) → Below base w w' → w.grownBy w' v.ownBlock → wpList Tryd.prog ops Q rest (a.put o.dst v') w') : wpList Tryd.prog ops Q (o :: rest) a w := by
  obtain ⟨v', w', hrun, q1, q2, q3⟩ := run_append_ob (ty := o.type) base v pss hown b cap u hc p hu h63 hbase
  refine wpList_step fun K hK => ?_
  rw [if_pos hw]
  unfold Oper.wp
  simp [execOp, ho, resolve, invoke, builtin, hs, hx, hrun, Result.andThen]
  exact hK _ _ (h v' w' q1 q2 q3)

theorem TB.ofSl {w : World} {base b o n c : Nat} {bs : List Int} {cur : Array Value} (h : Sl w (.slice (some ⟨b, o, none⟩) n c) (bs.map (Value.int .u8))) (k : Blk w b 5 cur) (hp : 0 < bs.length) (hb : base ≤ b) : TB w base (.slice (some ⟨b, o, none⟩) n c) bs := by
  obtain ⟨a, c', e, h1, h2, h3⟩ := h
  rw [List.length_map] at e h1 h3
  cases e
  obtain ⟨b', o', e, hlt, hc⟩ := h3 hp
  cases e
  exact ⟨b, o, c, rfl, h1, h2, hb, ⟨cur, k⟩, hc⟩
theorem wpList_append_tbW {w : World} {ops : Array Oper} {rest : List Oper} {o : Oper} {a : Act} {Q : Exit → Act → World → Prop} (hw : Region.wanted o (yielded ops a.tmps) = true) (s x : Operand)
    (ho : o.op = .call { callee := .builtin .append, args := #[s, x], argTypes := #[27, 27] })
    (base : Nat) (v : Value) (pss : List (List Int)) (hs : a.eval s = v) (hown : TBs w base v pss)
    (b cap : Nat) (hx : a.eval x = .slice (some ⟨b, 0, none⟩) 1 cap) (u : Value) (hc : w.cell? ⟨b, 0, none⟩ = some u) (p : List Int) (hu : TB w base u p)
    (h63 : pss.length + 1 ≤ 5000000000000) (hbase : base ≤ w.heap.size)
    (h : ∀ v' w', TBs w' base v' (pss ++ [p]) → Below base w w' → w.grownBy w' v.ownBlock → wpList Tryd.prog ops Q rest (a.put o.dst v') w') : wpList Tryd.prog ops Q (o :: rest) a w := by
  obtain ⟨v', w', hrun, q1, q2, q3, _⟩ := run_append_tb (ty := o.type) base v pss hown b cap u hc p hu h63 hbase
  refine wpList_step fun K hK => ?_
  rw [if_pos hw]
  unfold Oper.wp
  simp [execOp, ho, resolve, invoke, builtin, hs, hx, hrun, Result.andThen]
  exact hK _ _ (h v' w' q1 q2 q3)

/-- While records are appended to a log that is all the call's own. -/
structure Gd (W wr : World) (q g b : Nat) (v : Value) (s : LSt) (d : DSt) : Prop where
  lg : ∃ B, Lg wr q g b B v s d
  bel : Below W.heap.size W wr
  base : ∀ k ∈ q :: g :: b :: v.ownBlock.toList, W.heap.size ≤ k
theorem Gd.app {W wr w' : World} {q g b B : Nat} {v : Value} {s : LSt} {d : DSt} {r : LRes} {e : Ending} (h : Gd W wr q g b v s d) (ha : AppP wr w' q g b B v r e) : ∃ v', e = .returned (.int .i64 r.e) ∧ Gd W w' q g b v' r.s r.d ∧ Only (q :: g :: b :: v.ownBlock.toList) wr w' ∧ (v'.ownBlock = v.ownBlock ∨ ∃ k, v'.ownBlock = some k ∧ wr.heap.size ≤ k) := by
  obtain ⟨v', rfl, hL, hown, hO⟩ := ha
  refine ⟨v', rfl, ⟨⟨B, hL⟩, Only.belowOf h.bel hO h.bel.size h.base, fun k hk => ?_⟩, hO, hown⟩
  simp only [List.mem_cons, Option.mem_toList] at hk
  rcases hk with rfl | rfl | rfl | hk
  · exact h.base _ (by simp)
  · exact h.base _ (by simp)
  · exact h.base _ (by simp)
  · rcases hown with h1 | ⟨k2, h1, h2⟩
    · rw [h1] at hk; exact h.base k (by simp [hk])
    · rw [h1] at hk; cases hk; exact Nat.le_trans h.bel.size h2
theorem Gd.below {W wr w' : World} {q g b : Nat} {v : Value} {s : LSt} {d : DSt} (h : Gd W wr q g b v s d) (hb : Below wr.heap.size wr w') : Gd W w' q g b v s d := by
  obtain ⟨⟨B, hL⟩, h2, h3⟩ := h
  exact ⟨⟨B, hL.below hb⟩, below_trans2 h2 hb, h3⟩
/-- A text of the caller's stays where only the call's own blocks turn. -/
theorem Gd.sl {W wr w' : World} {q g b : Nat} {v : Value} {s : LSt} {d : DSt} (h : Gd W wr q g b v s d) (ho : Only (q :: g :: b :: v.ownBlock.toList) wr w') {u : Value} {xs : List Value} (hs : Sl W u xs) : Sl w' u xs :=
  hs.below (Only.belowOf h.bel ho h.bel.size h.base) (Nat.le_refl _)

set_option maxRecDepth 100000 in
set_option maxHeartbeats 8000000 in
theorem seglogRoom_walk (sectors : Int) (v : Value) (pss : List (List Int)) (n : Int) (w : World) (ht : Tabs w) (hs0 : -9223372036854775808 ≤ sectors) (hs1 : sectors ≤ 9223372036854775807) (hB : ∀ p ∈ pss, IsB p) (hS : Sls w v pss) (hn0 : -9223372036854775808 ≤ n) (hn1 : n ≤ 9223372036854775807) :
    Calls Tryd.prog 7 #[.int .i64 sectors, v, .int .i64 n] w fun e w' => e = .returned (.bool true) ∧ Below w.heap.size w w' := by
  have HT := Lib.hid ht
  have HS := Lib.hid hS
  have HBB := Lib.hid hB
  obtain ⟨va, vc, rfl, hvc, hvm⟩ := hS.shape
  obtain ⟨M, hM, hM1, hM2⟩ := mod_place sectors 80 (by omega)
  obtain ⟨R, hR, hR1, hR2⟩ := mod_place n 4000 (by omega)
  have HN := Lib.hid (dnew_ok M w hM1 (by omega))
  have HML := Lib.hid (And.intro hM1 (show M ≤ 80 by omega))
  have HRL := Lib.hid (And.intro hR1 (show R ≤ 4000 by omega))
  clear ht hS hB hM1 hM2 hR1 hR2 hs0 hs1 hn0 hn1
  go_enter Tryd.func7, Tryd.ntmps7
  go_wp2_with fail
  refine HN.out.mono ?_
  rintro e w1 ⟨g, b, rfl, hg, hb, hD, hb1⟩
  have HO := Lib.hid (open_any w1 g b _ (HT.out.below hb1) hD)
  have HB1 := Lib.hid hb1
  have HGB := Lib.hid (And.intro hg hb)
  clear hg hb hD hb1 HN
  go_wp2_with fail
  refine HO.out.mono ?_
  rintro e w2 ⟨hP, hO⟩
  obtain ⟨q, v2, rfl, hq, hv, hL⟩ := hP.ok (by rw [new_opened])
  rw [new_opened, new_log] at hL
  have hL : Lg w2 q g b w1.heap.size v2 ⟨M, 0, [], false⟩ (newD M) := hL
  have HGD := Lib.hid (show Gd w w2 q g b v2 ⟨M, 0, [], false⟩ (newD M) from ⟨⟨_, hL⟩, Only.belowOf HB1.out hO HB1.out.size (fun k hk => by
      simp at hk
      rcases hk with rfl | rfl
      · exact HGB.out.1
      · exact HGB.out.2), fun k hk => by
      simp only [List.mem_cons, Option.mem_toList] at hk
      rcases hk with rfl | rfl | rfl | hk
      · exact Nat.le_trans HB1.out.size hq
      · exact HGB.out.1
      · exact HGB.out.2
      · exact Nat.le_trans HB1.out.size (hv _ hk)⟩)
  have HSL := Lib.hid (And.intro (show M = (newD M).l.length from (new_len M).symm) (And.intro (new_calm M) (show (LSt.mk M 0 [] false).stop = false from rfl)))
  clear hP hO hq hv hL HO HGB HB1 HML
  go_wp2
  go_loopw [41] (fun i wr => ∃ (k : Nat) (v2 : Value) (s : LSt) (d : DSt), k ≤ pss.length ∧ i = .int .i64 k ∧ Hid (Gd w wr q g b v2 s d) ∧ Hid (s.secs = d.l.length ∧ d.calm ∧ s.stop = false)) (fun i _ => pss.length - (intOf i).toNat)
  case atStart => exact ⟨0, v2, ⟨M, 0, [], false⟩, newD M, by omega, rfl, HGD, Lib.hid ⟨HSL.out.1, HSL.out.2.1, rfl⟩⟩
  case round =>
    clear HGD HSL
    obtain ⟨k, v2, s, d, hk, rfl, hG, hSD⟩ := hrel
    by_cases hlt : k < pss.length
    · have hkI : (k : Int) < (pss.length : Int) := by omega
      obtain ⟨lb, lo, rfl, hlb, u, cu, hu⟩ := HS.out.at hlt
      have cu := (hG.out.bel.cell (p := ⟨lb, lo + k, none⟩) hlb).trans cu
      have HPB := Lib.hid (HBB.out _ (getD_mem hlt))
      generalize pss.getD k [] = p at *
      obtain ⟨ua, uc, rfl, huc, hum⟩ := hu.shape
      rw [List.length_map] at huc cu hu
      by_cases hk8 : k < 8
      · have hk8I : (k : Int) < 8 := by omega
        by_cases h7 : (p.length : Int) ≤ 700
        · skip
          have HUT := Lib.hid (show Sl w (.slice ua p.length uc) (p.map (Value.int .u8)) from hu)
          obtain ⟨B, hL⟩ := hG.out.lg
          have HAP := Lib.hid (append_any wr q g b B v2 s d (.slice ua p.length uc) p hL (HPB.out) (HT.out.below hG.out.bel) (hG.out.sl (Only.refl _ _) HUT.out) (fun w' ho => hG.out.sl ho HUT.out))
          have HC := Lib.hid (appD_calm (bs := p) hSD.out.2.1 hSD.out.2.2 hSD.out.1)
          clear hu hL
          go_wp2_with fail
          refine HAP.out.mono ?_
          intro e w3 hA
          obtain ⟨v3, rfl, hG3, _, _⟩ := hG.out.app hA
          have HG3 := Lib.hid hG3
          have HS3 := Lib.hid (show (appD s d p).s.secs = (appD s d p).d.l.length ∧ (appD s d p).d.calm ∧ (appD s d p).s.stop = false from
            ⟨by rw [HC.out.2.2.1, HC.out.2.2.2.1]; exact hSD.out.1, HC.out.1, HC.out.2.1⟩)
          generalize (appD s d p).e = er at *
          clear hA hG3 HAP HC
          go_wp2
          go_roundw
          case rel => exact ⟨k + 1, v3, _, _, hlt, by go_num, HG3, HS3⟩
          case measure => simp [intOf]; omega
        · have h7b : (700 : Int) < (p.length : Int) := by omega
          have h7c : (700 : Int) ≤ (uc : Int) := by omega
          have hl7 : 700 ≤ (p.map (Value.int .u8)).length := by rw [List.length_map]; omega
          have HL7 := Lib.hid hl7
          clear hl7 h7
          have HUT := Lib.hid (show Sl w (.slice ua 700 uc) ((p.take 700).map (Value.int .u8)) from by rw [List.map_take]; exact hu.take 700 HL7.out)
          obtain ⟨B, hL⟩ := hG.out.lg
          have HAP := Lib.hid (append_any wr q g b B v2 s d (.slice ua 700 uc) (p.take 700) hL (HPB.out.take 700) (HT.out.below hG.out.bel) (hG.out.sl (Only.refl _ _) HUT.out) (fun w' ho => hG.out.sl ho HUT.out))
          have HC := Lib.hid (appD_calm (bs := (p.take 700)) hSD.out.2.1 hSD.out.2.2 hSD.out.1)
          clear hu hL
          go_wp2_with fail
          refine HAP.out.mono ?_
          intro e w3 hA
          obtain ⟨v3, rfl, hG3, _, _⟩ := hG.out.app hA
          have HG3 := Lib.hid hG3
          have HS3 := Lib.hid (show (appD s d (p.take 700)).s.secs = (appD s d (p.take 700)).d.l.length ∧ (appD s d (p.take 700)).d.calm ∧ (appD s d (p.take 700)).s.stop = false from
            ⟨by rw [HC.out.2.2.1, HC.out.2.2.2.1]; exact hSD.out.1, HC.out.1, HC.out.2.1⟩)
          generalize (appD s d (p.take 700)).e = er at *
          clear hA hG3 HAP HC
          go_wp2
          go_roundw
          case rel => exact ⟨k + 1, v3, _, _, hlt, by go_num, HG3, HS3⟩
          case measure => simp [intOf]; omega
      · have hk8I : ¬ (k : Int) < 8 := by omega
        clear hu
        go_wp2
        go_roundw
        case rel => exact ⟨k + 1, v2, s, d, hlt, by go_num, hG, hSD⟩
        case measure => simp [intOf]; omega
    · obtain rfl : k = pss.length := by omega
      have hkI : ¬ (pss.length : Int) < (pss.length : Int) := by omega
      have HWR := Lib.hid hG.out.bel.size
      have hbA : Below wr.heap.size wr (wr.alloc (.cells #[.int .u8 5] 5)) := (Below.refl _ _).alloc (Nat.le_refl _) _
      have hs5 := Sl.lit wr #[.int .u8 5] 5 (by simp [maxLen])
      have HRP := Lib.hid (repeat_any 5 R (.slice (some ⟨wr.heap.size, 0, none⟩) 1 1) _ HRL.out.1 (by have := HRL.out.2; omega) hs5)
      obtain ⟨B0, hL0⟩ := hG.out.lg
      have HLTS := Lib.hid hL0.lts
      have HBA := Lib.hid hbA
      clear hs5 hbA hL0 B0
      have hszA : (wr.alloc (.cells #[.int .u8 5] 5)).heap.size = wr.heap.size + 1 := by simp
      have HSZA := Lib.hid hszA
      clear hszA
      go_wp2_with fail
      refine HRP.out.mono ?_
      rintro e w3 ⟨rfl, hx3, ⟨cur3, k3⟩, hb3⟩
      rw [HSZA.out] at hx3 k3 ⊢
      have HG3 := Lib.hid (hG.out.below (below_trans2 HBA.out hb3))
      have HX3 := Lib.hid hx3
      have HK3 := Lib.hid k3
      have HSZ3 := Lib.hid (show wr.heap.size + 1 ≤ w3.heap.size from by have := hb3.size; rw [HSZA.out] at this; exact this)
      clear hx3 k3 hb3 HRP HBA hG
      obtain ⟨B, hL3⟩ := HG3.out.lg
      have HRO := Lib.hid (lroom_any w3 q g b B v2 s d hL3)
      have HFI := Lib.hid (room_fits (s := s) (bs := List.replicate R 5) hL3.fin (by rw [List.length_replicate]; exact HRL.out.1) (by rw [List.length_replicate]; exact HRL.out.2))
      rw [List.length_replicate] at HFI
      have HSHT := Lib.hid hL3.short
      clear hL3
      go_wp2_with fail
      refine HRO.out.mono ?_
      rintro e w4 ⟨rfl, hb4⟩
      have HG4 := Lib.hid (HG3.out.below hb4)
      have HX4 := Lib.hid (HX3.out.below hb4 (Nat.le_refl _))
      have HK4 := Lib.hid (HK3.out.belowS hb4)
      have HSZ4 := Lib.hid (show wr.heap.size + 1 ≤ w4.heap.size from Nat.le_trans HSZ3.out hb4.size)
      clear hb4 HRO HG3 HX3 HK3 HSZ3
      obtain ⟨B4, hL4⟩ := HG4.out.lg
      have HRE := Lib.hid (lrecords_any w4 q g b B4 v2 s d hL4)
      clear hL4
      go_wp2_with fail
      refine HRE.out.mono ?_
      rintro e w5 ⟨xr, rfl, hxr, hb5⟩
      obtain ⟨ra, rc, rfl⟩ := hxr.val
      have HR5 := Lib.hid hxr
      have HG5 := Lib.hid (HG4.out.below hb5)
      have HX5 := Lib.hid (HX4.out.below hb5 (Nat.le_refl _))
      have HK5 := Lib.hid (HK4.out.belowS hb5)
      have HSZ5 := Lib.hid hb5.size
      clear hxr hb5 HRE HX4 HK4 HG4
      obtain ⟨B5, hL5⟩ := HG5.out.lg
      have HIM := Lib.hid (dimage_any w5 g b d hL5.dev)
      clear hL5
      go_wp2_with fail
      refine HIM.out.mono ?_
      rintro e w6 ⟨xi, rfl, hxi, hb6⟩
      obtain ⟨ia, ic, rfl⟩ := hxi.val
      have HI6 := Lib.hid (show OBs w6 w5.heap.size (.slice ia (d.l.map Sec.now).length ic) d.img from hxi)
      have HR6 := Lib.hid (HR5.out.below hb6)
      have HG6 := Lib.hid (HG5.out.below hb6)
      have HX6 := Lib.hid (HX5.out.below hb6 (Nat.le_refl _))
      have HK6 := Lib.hid (HK5.out.belowS hb6)
      clear hxi hb6 HIM HX5 HK5 HG5 HR5
      rw [List.length_map]
      rw [List.length_map] at HI6
      obtain ⟨B6, hL6⟩ := HG6.out.lg
      have HB5 := Lib.hid (show IsB (List.replicate R (5 : Int)) from fun x hx => by obtain ⟨_, rfl⟩ := List.mem_replicate.1 hx; omega)
      have HFAR := Lib.hid (show wr.heap.size + 1 ∉ q :: g :: b :: v2.ownBlock.toList from fun hm => by have := HLTS.out _ hm; omega)
      have HAP := Lib.hid (append_any w6 q g b B6 v2 s d _ (List.replicate R 5) hL6 HB5.out (HT.out.below HG6.out.bel) HX6.out (fun w' ho => HX6.out.far ho HFAR.out))
      have HNTX := Lib.hid hL6.noText
      have HIB := Lib.hid (And.intro hL6.isB (img_B hL6.dev.ok))
      have hcnt6 : s.l.length ≤ 16384 := by have := hL6.dev.pos.2; have := hL6.secs; have := hL6.cnt; have := hL6.fin; omega
      have HCNT := Lib.hid hcnt6
      clear hL6 hcnt6
      go_wp2_with fail
      refine HAP.out.mono ?_
      intro e w7 hA
      obtain ⟨v7, rfl, hG7, hO7, hown7⟩ := HG6.out.app hA
      have HG7 := Lib.hid hG7
      have HW7 := Lib.hid (HR6.out.only2 hO7 HNTX.out (fun k hk hm => by have h1 := (HR6.out.low hk).1; have h2 := HLTS.out _ hm; have h3 := HSZ4.out; omega))
      have HI7 := Lib.hid (HI6.out.only2 hO7 HNTX.out (fun k hk hm => by have h1 := (HI6.out.low hk).1; have h2 := HLTS.out _ hm; have h3 := HSZ4.out; have h4 := HSZ5.out; omega))
      have HX7 := Lib.hid (HX6.out.far hO7 HFAR.out)
      have HK7 := Lib.hid (hO7.blk HK6.out HFAR.out)
      clear hA hG7 hO7 hown7 HAP HR6 HI6 HX6 HK6 HG6 HNTX
      have HC := Lib.hid (appD_calm (bs := List.replicate R 5) hSD.out.2.1 hSD.out.2.2 hSD.out.1)
      rw [List.length_replicate] at HC
      by_cases hft : fits s (List.replicate R 5)
      · have hroom : (R : Int) ≤ roomI s := HFI.out.1 hft
        have he := (HC.out.2.2.2.2.1 ⟨HRL.out.1, HRL.out.2, hft⟩).1
        have hse := (HC.out.2.2.2.2.1 ⟨HRL.out.1, HRL.out.2, hft⟩).2
        rw [he]
        obtain ⟨B7, hL7⟩ := HG7.out.lg
        have HRE := Lib.hid (lrecords_any w7 q g b B7 v7 _ _ hL7)
        rw [hse] at HRE
        have HRE := Lib.hid (show Calls Tryd.prog 12 #[.pointer (some ⟨q, 0, none⟩)] w7 fun e w' => ∃ x, e = .returned x ∧ OBs w' w7.heap.size x (s.l ++ [List.replicate R 5]) ∧ Below w7.heap.size w7 w' from HRE.out)
        clear hft he hse hL7 HFI HC hSD
        have HISB := Lib.hid (show ∀ p ∈ s.l ++ [List.replicate R (5 : Int)], IsB p from fun p hp => by
          rcases List.mem_append.1 hp with h1 | h1
          · exact HIB.out.1 p h1
          · rw [List.mem_singleton.1 h1]; exact HB5.out)
        generalize roomI s = room at *
        go_wp2_with fail
        refine HRE.out.mono ?_
        rintro e w8 ⟨x8, rfl, hx8, hb8⟩
        obtain ⟨ya, yn, yc, rfl⟩ : ∃ a n c, x8 = Value.slice a n c := (by obtain ⟨a, c, e⟩ := hx8.val; exact ⟨a, _, c, e⟩)
        have hbB : Below w8.heap.size w8 (w8.alloc (.cells #[.slice (some ⟨wr.heap.size + 1, 0, none⟩) R R] 26)) := (Below.refl _ _).alloc (Nat.le_refl _) _
        have HB9 := Lib.hid (below_trans2 hb8 hbB)
        have HWS := Lib.hid (show w.heap.size ≤ wr.heap.size + 1 from by have := HWR.out; omega)
        have HW9 := Lib.hid ((((HW7.out.below hb8).below hbB).tbs (fun p hp => HSHT.out p hp |>.1)).base (show w.heap.size ≤ w4.heap.size from by have := HSZ4.out; have := HWR.out; omega))
        have HU9 := Lib.hid (TB.ofSl (base := w.heap.size) (((HX7.out.below hb8 (Nat.le_refl _)).below hbB (Nat.le_refl _))) ((HK7.out.belowS hb8).belowS hbB) (by rw [List.length_replicate]; exact HRL.out.1) HWS.out)
        have HC9 := Lib.hid ((Blk.new w8 26 #[.slice (some ⟨wr.heap.size + 1, 0, none⟩) R R]).cell 0)
        have HY9 := Lib.hid (hx8.below hbB)
        have HBW9 := Lib.hid (below_trans2 (below_trans2 HG7.out.bel hb8) hbB)
        have HLW := Lib.hid (show ∀ k, (Value.slice ra s.l.length rc).ownBlock = some k → k < w7.heap.size from fun k hk => (HW7.out.low hk).2)
        have HL1 := Lib.hid (show s.l.length + 1 ≤ 5000000000000 from by have := HCNT.out; omega)
        clear hx8 hb8 hbB HRE
        go_wp2_with (at_builtin; refine wpList_append_tbW (by rfl) _ _ rfl w.heap.size (.slice ra s.l.length rc) s.l rfl HW9.out w8.heap.size 1 rfl (.slice (some ⟨wr.heap.size + 1, 0, none⟩) R R) HC9.out (List.replicate R 5) HU9.out HL1.out HBW9.out.size ?_)
        intro v10 w10 hr10 hb10 hg10
        have ho10 : Only (Value.slice ra s.l.length rc).ownBlock.toList (w8.alloc (.cells #[.slice (some ⟨wr.heap.size + 1, 0, none⟩) R R] 26)) w10 := ⟨hg10.os, hg10.tape, hg10.output, hg10.size, fun k hk hn => hg10.block k hk fun e => hn (by simp [← e])⟩
        have hy10 := HY9.out.only2 ho10 HW9.out.noText (fun k hk hm => by have h1 := (HY9.out.low hk).1; have h2 := HLW.out k (by simpa using hm); omega)
        obtain ⟨za, zn, zc, hz⟩ : ∃ a n c, v10 = Value.slice a n c := (by obtain ⟨a, c, e⟩ := hr10.val; exact ⟨a, _, c, e⟩)
        have HEQ := Lib.hid (sameTexts_any _ v10 _ _ w10 hy10.sls hr10.sls HISB.out HISB.out)
        rw [decide_eq_true rfl] at HEQ
        have HBW10 := Lib.hid (HBW9.out.trans hb10)
        have HAW := Lib.hid (awake08_any w10 (HT.out.below HBW10.out))
        subst hz
        clear hr10 hb10 hg10 ho10 hy10
        go_wp2_with fail
        refine HEQ.out.mono ?_
        rintro e w11 ⟨rfl, rfl⟩
        go_wp2_with fail
        refine HAW.out.mono ?_
        rintro e w12 ⟨rfl, hb12⟩
        have HB12 := Lib.hid (below_trans2 HBW10.out hb12)
        clear hb12
        go_wp2
        go_ret
        exact ⟨rfl, HB12.out⟩
      · have hroom : (roomI s) < (R : Int) := by have := mt HFI.out.2 hft; omega
        have hap := HC.out.2.2.2.2.2.1 ⟨HRL.out.1, HRL.out.2, hft⟩
        rw [hap] at HG7 ⊢
        obtain ⟨B7, hL7⟩ := HG7.out.lg
        have HRE := Lib.hid (lrecords_any w7 q g b B7 v7 s d hL7)
        clear hft hap hL7 HFI HC hSD
        generalize roomI s = room at *
        go_wp2_with fail
        refine HRE.out.mono ?_
        rintro e w8 ⟨x8, rfl, hx8, hb8⟩
        obtain ⟨ya, yc, rfl⟩ := hx8.val
        have HEQ := Lib.hid (sameTexts_any _ _ _ _ w8 hx8.sls (HW7.out.below hb8).sls HIB.out.1 HIB.out.1)
        rw [decide_eq_true rfl] at HEQ
        have HG8 := Lib.hid (HG7.out.below hb8)
        have HI8 := Lib.hid (HI7.out.below hb8)
        clear hx8 hb8 HRE HW7 HI7 HG7
        go_wp2_with fail
        refine HEQ.out.mono ?_
        rintro e w9 ⟨rfl, rfl⟩
        obtain ⟨B8, hL8⟩ := HG8.out.lg
        have HIM := Lib.hid (dimage_any w8 g b d hL8.dev)
        clear hL8 HEQ
        go_wp2_with fail
        refine HIM.out.mono ?_
        rintro e w9 ⟨x9, rfl, hx9, hb9⟩
        have hx9 : OBs w9 w8.heap.size x9 d.img := hx9
        obtain ⟨za, zc, hz⟩ := hx9.val
        have HEQ := Lib.hid (sameTexts_any _ _ _ _ w9 hx9.sls (HI8.out.below hb9).sls HIB.out.2 HIB.out.2)
        rw [decide_eq_true rfl] at HEQ
        have HB9 := Lib.hid (below_trans2 HG8.out.bel hb9)
        have HAW := Lib.hid (awake08_any w9 (HT.out.below HB9.out))
        subst hz
        clear hx9 hb9 HIM HG8 HI8
        go_wp2_with fail
        refine HEQ.out.mono ?_
        rintro e w10 ⟨rfl, rfl⟩
        go_wp2_with fail
        refine HAW.out.mono ?_
        rintro e w12 ⟨rfl, hb12⟩
        have HB12 := Lib.hid (below_trans2 HB9.out hb12)
        clear hb12
        go_wp2
        go_ret
        exact ⟨rfl, HB12.out⟩

end Go.Proofs.YtgfkejecigefbaaDoor
