/- The walk of the reference's Read. -/
import Derived.Test.YtpdajglcpkfonaaRead
import Derived.Test.YtpdajglcpkfonaaRefRu
namespace Go.Proofs.Ytpdajglcpkfonaa
open Go.RowKit
set_option linter.unusedVariables false

/-- A batch that the call makes. -/
def OBds (w : World) (base : Nat) (v : Value) (l : List Chg) : Prop := ∃ vs, OwnK w base 74 2 v l.length (flat2 vs) ∧ PRd w vs l

theorem OBds.nil (w : World) (base : Nat) : OBds w base (.slice none 0 0) [] := ⟨[], OwnK.nil _ _ _ _, trivial⟩
theorem PRd.below {w w' : World} (hb : Below w.heap.size w w') {us : List (Value × Value)} {ps : List Chg} (h : PRd w us ps) : PRd w' us ps := h.mono fun u zs hu => hu.below hb (Nat.le_refl _)
theorem OBds.below {w w' : World} {base : Nat} {v : Value} {l : List Chg} (h : OBds w base v l) (hb : Below w.heap.size w w') : OBds w' base v l := by
  obtain ⟨vs, h1, h2⟩ := h
  exact ⟨vs, h1.below hb (Nat.le_refl _), h2.below hb⟩
theorem OBds.bds {w : World} {base : Nat} {v : Value} {l : List Chg} (h : OBds w base v l) : Bds w v l := by
  obtain ⟨vs, h1, h2⟩ := h
  rcases h1.1.2 with ⟨rfl, h0⟩ | ⟨g, cap, cur, rfl, hb, hg, hnc, hcm, _, htake⟩
  · obtain rfl : l = [] := List.length_eq_zero_iff.1 h0
    exact Bds.nil w
  · refine ⟨_, cap, rfl, hnc, hcm, fun hp => ⟨g, 0, rfl, ?_, fun i p hi => ?_⟩⟩
    · rcases Nat.lt_or_ge g w.heap.size with h | h
      · exact h
      · rw [Array.getElem?_eq_none h] at hg; cases hg
    · have hlt : i < l.length := by
        rcases Nat.lt_or_ge i l.length with h | h
        · exact h
        · rw [List.getElem?_eq_none h] at hi; cases hi
      have hu := List.getElem?_eq_getElem (l := vs) (i := i) (by rw [h2.len]; exact hlt)
      have hgt := flat2_get vs i _ hu
      have hs := h2.at i _ p hu hi
      have hc := h1.1.cells (g := g) rfl
      have c1 := hc _ _ hgt.1
      have c2 := hc _ _ hgt.2
      rw [add_plain0] at c1 c2
      exact ⟨_, _, c1, by rw [Nat.add_assoc]; exact c2, hs.1, hs.2⟩
theorem OBds.val {w : World} {base : Nat} {v : Value} {l : List Chg} (h : OBds w base v l) : ∃ a c, v = .slice a l.length c := by
  obtain ⟨a, c, h1, _⟩ := h.bds.shape
  exact ⟨a, c, h1⟩

theorem wpList_append_pair {w : World} {ops : Array Oper} {rest : List Oper} {o : Oper} {a : Act} {Q : Exit → Act → World → Prop} (hgd : o.guard = none) (s x : Operand)
    (ho : o.op = .call { callee := .builtin .append, args := #[s, x], argTypes := #[50, 50] })
    (base : Nat) (v : Value) (l : List Chg) (hs : a.eval s = v) (hown : OBds w base v l)
    (b cap : Nat) (hx : a.eval x = .slice (some ⟨b, 0, none⟩) 1 cap) (u1 u2 : Value) (hc1 : w.cell? ⟨b, 0, none⟩ = some u1) (hc2 : w.cell? ⟨b, 1, none⟩ = some u2) (p : Chg) (hu1 : Sl w u1 (p.1.map (Value.int .u8))) (hu2 : Sl w u2 (p.2.map (Value.int .u8)))
    (h63 : l.length + 1 ≤ 1000000000000) (hbase : base ≤ w.heap.size)
    (h : ∀ v' w', OBds w' base v' (l ++ [p]) → Below base w w' → w.grownBy w' v.ownBlock → wpList Try.prog ops Q rest (a.put o.dst v') w') : wpList Try.prog ops Q (o :: rest) a w := by
  obtain ⟨vs, h1, h2⟩ := hown
  obtain ⟨i0, hi, hz0, hz1, hz2⟩ := info_parts infoBd
  obtain ⟨a1, n1, c1, rfl⟩ := hu1.val
  obtain ⟨a2, n2, c2, rfl⟩ := hu2.val
  obtain ⟨v', w', hrun, hown', hg⟩ := run_append_ownK (P := Try.prog) w base 50 o.type 74 i0 (.agg #[.slice none 0 0, .slice none 0 0]) 2 48 Try.underlying50 hi hz0 hz1 hz2 (by simp [Value.cells]) (by decide) (by intro c hc; simp [Value.cells] at hc; subst hc; exact notB_slice _ _ _) v l.length (flat2 vs) h1 ⟨b, 0, none⟩ 1 cap [.slice a1 n1 c1, .slice a2 n2 c2] rfl
    (fun j y hj => by
      match j, hj with
      | 0, hj => simp at hj; subst hj; exact hc1
      | 1, hj => simp at hj; subst hj; rw [add_plain0]; exact hc2
      | j + 2, hj => simp at hj) (by simp [Value.oneCell']) (by simp [notB_slice]) (by unfold maxLen; omega) (by omega) hbase
  refine wpList_plain hgd fun K hK => ?_
  unfold Oper.wp
  simp [execOp, ho, resolve, invoke, builtin, hs, hx, hrun, Result.andThen]
  refine hK _ _ (h v' w' ⟨vs ++ [(.slice a1 n1 c1, .slice a2 n2 c2)], by rw [flat2_snoc]; simpa using hown', (h2.mono fun u zs hu => hu.keepK h1 hg).snoc ⟨hu1.keepK h1 hg, hu2.keepK h1 hg⟩⟩ ?_ hg)
  exact (Below.refl _ _).grown hg hbase (fun k hk => (h1.1.lt k hk).1)

theorem OBds.keepG {w w' : World} {base : Nat} {v : Value} {l : List Chg} (h : OBds w base v l) {g : Nat} {t : TypeId} {cs : Array Value} (hk : Blk w g t cs) (hcs : ∀ (j : Nat) (n : Int), cs[j]? ≠ some (.int .u8 n)) (hne : 74 ≠ t) (hg : w.grownBy w' (some g)) : OBds w' base v l := by
  obtain ⟨vs, h1, h2⟩ := h
  have hob : v.ownBlock ≠ some g := own_blk_ne h1.1 hk hne
  refine ⟨vs, ⟨h1.1.kept hg (.inr hob), fun g' hg' => ?_⟩, h2.mono fun u zs hu => hu.keepG hk hcs hg⟩
  obtain ⟨cur, c1, c2⟩ := h1.2 g' hg'
  exact ⟨cur, (hg.block g' (h1.1.lt g' hg').2 (by rw [← hg']; exact hob)).trans c1, c2⟩

/-- What an append to a batch leaves of a block of another kind. -/
theorem OBds.blk {w w' : World} {base : Nat} {v : Value} {l : List Chg} (h : OBds w base v l) {g : Nat} {t : TypeId} {cs : Array Value} (hk : Blk w g t cs) (hne : 74 ≠ t) (hg : w.grownBy w' v.ownBlock) : Blk w' g t cs := by
  obtain ⟨vs, h1, h2⟩ := h
  exact hk.grown hg (fun e => own_blk_ne h1.1 hk hne e.symm)
theorem OBds.sl {w w' : World} {base : Nat} {v : Value} {l : List Chg} (h : OBds w base v l) {u : Value} {zs : List Int} (hu : Sl w u (zs.map (Value.int .u8))) (hg : w.grownBy w' v.ownBlock) : Sl w' u (zs.map (Value.int .u8)) := by
  obtain ⟨vs, h1, h2⟩ := h
  exact hu.keepK h1 hg
theorem OBds.rrd {w w' : World} {base : Nat} {v : Value} {l : List Chg} (h : OBds w base v l) {g : Nat} {bs : List Int} {e : Int} (hr : RRd w g bs e) (hg : w.grownBy w' v.ownBlock) : RRd w' g bs e := by
  obtain ⟨x, h1, h2⟩ := hr
  exact ⟨x, h.blk h1 (by decide) hg, h.sl h2 hg⟩
theorem RRd.below {w w' : World} {g : Nat} {bs : List Int} {e : Int} (hr : RRd w g bs e) (hb : Below w.heap.size w w') : RRd w' g bs e := by
  obtain ⟨x, h1, h2⟩ := hr
  exact ⟨x, h1.belowS hb, h2.below hb (Nat.le_refl _)⟩
theorem OBds.read {w w' : World} {base : Nat} {v : Value} {l : List Chg} (h : OBds w base v l) {g : Nat} {bs bs' : List Int} {e e' : Int} (hr : RRd w g bs e) (h' : RRdAt w w' g bs' e') : OBds w' base v l := by
  obtain ⟨x, h1, h2⟩ := hr
  exact h.keepG h1 (rrd_noB x h2.val e) (by decide) h'.2
theorem RRd.sl {w w' : World} {g : Nat} {bs bs' : List Int} {e e' : Int} (hr : RRd w g bs e) (h' : RRdAt w w' g bs' e') {u : Value} {zs : List Int} (hu : Sl w u (zs.map (Value.int .u8))) : Sl w' u (zs.map (Value.int .u8)) := by
  obtain ⟨x, h1, h2⟩ := hr
  exact hu.keepG h1 (rrd_noB x h2.val e) h'.2

set_option maxRecDepth 100000 in
set_option maxHeartbeats 4000000 in
theorem refRead_any (p0 p1 p2 p3 p4 p5 p6 p7 : Int) (v : Value) (bs : List Int) (w : World) (hl : bs.length ≤ 100000000) (hB : IsB bs) (hs : Sl w v (bs.map (Value.int .u8))) :
    Calls Try.prog 29 #[.agg #[.int .i64 p0, .int .i64 p1, .int .i64 p2, .int .i64 p3, .int .i64 p4, .int .i64 p5, .int .i64 p6, .int .i64 p7], v] w fun e w' =>
      ∃ l r, e = .returned (.tuple #[l, r, .int .i64 (readS p2 p3 bs).2.2]) ∧ Bds w' l (readS p2 p3 bs).1 ∧ Sl w' r ((readS p2 p3 bs).2.1.map (Value.int .u8)) ∧ Below w.heap.size w w' := by
  obtain ⟨a, cap, rfl, hc, hm⟩ := hs.shape
  rw [List.length_map] at *
  have hb1 : Below w.heap.size w (w.alloc (.cells #[.int .i64 p0, .int .i64 p1, .int .i64 p2, .int .i64 p3, .int .i64 p4, .int .i64 p5, .int .i64 p6, .int .i64 p7] 49)) := (Below.refl _ _).alloc (Nat.le_refl _) _
  have kP := Blk.new w 49 #[.int .i64 p0, .int .i64 p1, .int .i64 p2, .int .i64 p3, .int .i64 p4, .int .i64 p5, .int .i64 p6, .int .i64 p7]
  have hs1 := hs.below hb1 (Nat.le_refl _)
  have hsz1 : (w.alloc (.cells #[.int .i64 p0, .int .i64 p1, .int .i64 p2, .int .i64 p3, .int .i64 p4, .int .i64 p5, .int .i64 p6, .int .i64 p7] 49)).heap.size = w.heap.size + 1 := by simp
  have HLL := Lib.hid hl
  have HB := Lib.hid hB
  clear hs hl hB
  go_enter Try.func29, Try.ntmps29
  generalize hw1 : (w.alloc (.cells #[.int .i64 p0, .int .i64 p1, .int .i64 p2, .int .i64 p3, .int .i64 p4, .int .i64 p5, .int .i64 p6, .int .i64 p7] 49)) = w1 at *
  have HSZ := Lib.hid hsz1
  clear hsz1
  have hbE : Below w1.heap.size w1 (w1.alloc (.cells #[] 5)) := (Below.refl _ _).alloc (Nat.le_refl _) _
  have hown0 : (w1.alloc (.cells #[] 5)).ownsRow w1.heap.size 5 1 (.slice (some ⟨w1.heap.size, 0, none⟩) 0 0) 0 [] :=
    World.ownsRow_lit (base := w1.heap.size) (e := 5) (size := 1) w1 #[] 0 (Nat.le_refl _) (by simp [maxLen]) (by simp)
  have hsE := hs1.below hbE (Nat.le_refl _)
  obtain ⟨i0, hi, hz0, hz1, hz2⟩ := info_parts info8x
  go_wp2_with (at_builtin; refine wpList_append_sl rfl _ _ 23 rfl w1.heap.size 5 i0 (.int .u8 0) 1 Try.underlying23 hi hz0 hz1 hz2 rfl _ 0 [] rfl hown0 (.slice a bs.length cap) (bs.map (Value.int .u8)) rfl hsE (one8 _) (by have := HLL.out; rw [List.length_map]; unfold maxLen; omega) (by have := HLL.out; rw [List.length_map]; omega) (by simp) ?_)
  intro xv w2 hown2 hg2
  clear hw1
  have hb2 := below_grown hbE hown0 (Nat.le_refl _) (by simp) hg2
  have hxv : Sl w2 xv (bs.map (Value.int .u8)) := by simpa using Sl.of_owns hown2
  obtain ⟨xa, xn, xc, rfl⟩ := hxv.val
  have hbr := hb1.trans (hb2.mono hb1.size)
  have kP := kP.belowS hb2
  have hgP : Hid (w.heap.size < w2.heap.size) := by have := hb2.size; have := HSZ.out; show _ < _; omega
  have kR := Blk.new w2 84 #[.slice xa xn xc, .int .i64 0]
  have hbR : Below w2.heap.size w2 (w2.alloc (.cells #[.slice xa xn xc, .int .i64 0] 84)) := (Below.refl _ _).alloc (Nat.le_refl _) _
  have hr3 : RRd (w2.alloc (.cells #[.slice xa xn xc, .int .i64 0] 84)) w2.heap.size bs 0 := ⟨_, kR, hxv.below hbR (Nat.le_refl _)⟩
  have kP := kP.belowS hbR
  have hbr := hbr.trans (hbR.mono hbr.size)
  clear hown2 hg2 hbE hown0 hsE hb1 hb2 hs1 hxv kR hbR
  obtain ⟨N, hN⟩ : ∃ N : Nat, (uI 32 bs 0).1 = N := ⟨(uI 32 bs 0).1.toNat, by have := (uI_val 32 bs 0 HB.out).1; omega⟩
  have hN32 : N ≤ 32 := by have := uI32 bs HB.out; rw [hN] at this; simpa using this
  have HALL := Lib.hid (show rdAll p2 p3 bs = rdN p2 p3 N (rdStart bs) by unfold rdAll; rw [hN]; rfl)
  have HLF := Lib.hid (fun k => rdN_left p2 p3 k (rdStart bs) bs (uI_left 32 bs 0))
  have HLN := Lib.hid (fun k => rdN_len p2 p3 k (rdStart bs))
  have HU := Lib.hid (refRuint_any w2.heap.size bs 0 32 _ HB.out HLL.out hr3)
  rw [hN] at HU
  have HU : Hid (Calls Try.prog 48 #[.pointer (some ⟨w2.heap.size, 0, none⟩), .int .i64 32] (w2.alloc (.cells #[.slice xa xn xc, .int .i64 0] 84)) fun e w' => e = .returned (.int .i64 N) ∧ RRdAt (w2.alloc (.cells #[.slice xa xn xc, .int .i64 0] 84)) w' w2.heap.size (rdStart bs).2.1 (rdStart bs).2.2) := HU
  have hS0 : (rdStart bs).1 = [] := rfl
  generalize rdStart bs = S0 at *
  clear hN hr3
  go_wp2_with fail
  refine HU.out.mono ?_
  generalize (w2.alloc (.cells #[.slice xa xn xc, .int .i64 0] 84)) = w3 at *
  generalize w2.heap.size = g at *
  rintro e w4 ⟨rfl, hr4, hg4⟩
  have kP := kP.grown hg4 (by intro e; cases e; exact absurd hgP.out (Nat.lt_irrefl _))
  have hbr := below_of_only hbr hg4 (Nat.le_of_lt hgP.out) hbr.size
  clear hg4 HU
  go_wp2
  go_loopw [8, 17] (fun o i wr => ∃ (k : Nat) (ov : Value), ov = o ∧ k ≤ N ∧ i = .int .i64 k ∧ Hid (OBds wr w.heap.size ov (rdN p2 p3 k S0).1) ∧ Hid (RRd wr g (rdN p2 p3 k S0).2.1 (rdN p2 p3 k S0).2.2) ∧
    Hid (Blk wr w.heap.size 49 #[.int .i64 p0, .int .i64 p1, .int .i64 p2, .int .i64 p3, .int .i64 p4, .int .i64 p5, .int .i64 p6, .int .i64 p7]) ∧ Below w.heap.size w wr) (fun _ i _ => N - (intOf i).toNat)
  case atStart => exact ⟨0, _, rfl, by omega, rfl, Lib.hid (by rw [show (rdN p2 p3 0 S0).1 = [] from hS0]; exact OBds.nil _ _), hr4, kP, hbr⟩
  case round =>
    obtain ⟨k, ov, rfl, hk, rfl, hO, hrd, hkp, hbr⟩ := hrel
    by_cases hlt : k < N
    · have hkI : (k : Int) < (N : Int) := by omega
      have hlen := HLN.out k
      rw [hS0, List.length_nil, Nat.zero_add] at hlen
      have HST := Lib.hid (show rdN p2 p3 (k + 1) S0 = rdStep p2 p3 (rdN p2 p3 k S0) from rfl)
      have HSB := Lib.hid (suf_isB (HLF.out k) HB.out)
      have HSL := Lib.hid (show (rdN p2 p3 k S0).2.1.length ≤ 100000000 from Nat.le_trans (suf_len (HLF.out k)) HLL.out)
      generalize rdN p2 p3 k S0 = S at *
      obtain ⟨acc, rb, re⟩ := S
      simp only at hlen HST HSB HSL hO hrd
      obtain ⟨oa, oc, rfl⟩ := hO.out.val
      have HLEN := Lib.hid (show acc.length + 1 ≤ 1000000000000 by omega)
      have HC1 := Lib.hid (refRbytes_any g rb re p2 wr HSB.out HSL.out hrd.out)
      have q2 : wr.cell? ⟨w.heap.size, 2, none⟩ = some (.int .i64 p2) := hkp.out.cell 2
      clear hlen
      go_wp2_with fail
      refine HC1.out.mono ?_
      rintro e w5 ⟨x, rfl, hx, hr5⟩
      have hO5 := hO.out.read hrd.out hr5
      have kP5 := hkp.out.grown hr5.2 (by intro e; cases e; exact absurd hgP.out (Nat.lt_irrefl _))
      have hbr5 := below_of_only hbr hr5.2 (Nat.le_of_lt hgP.out) hbr.size
      obtain ⟨xa', xn', xc', rfl⟩ := hx.val
      have HSB2 := Lib.hid (suf_isB (bI_left p2 rb re) HSB.out)
      have HSL2 := Lib.hid (Nat.le_trans (suf_len (bI_left p2 rb re)) HSL.out)
      generalize hB1 : bI p2 rb re = B1 at *
      have HB1 := Lib.hid hB1
      clear hB1
      obtain ⟨x', rb1, re1⟩ := B1
      have HC2 := Lib.hid (refRbytes_any g rb1 re1 p3 w5 HSB2.out HSL2.out hr5.1)
      have q3 : w5.cell? ⟨w.heap.size, 3, none⟩ = some (.int .i64 p3) := kP5.cell 3
      have HR5 := Lib.hid hr5.1
      clear q2 hO hrd hkp hbr hr5
      go_wp2_with fail
      refine HC2.out.mono ?_
      rintro e w6 ⟨y, rfl, hy, hr6⟩
      have hO6 := hO5.read HR5.out hr6
      have hx6 := HR5.out.sl hr6 hx
      have kP6 := kP5.grown hr6.2 (by intro e; cases e; exact absurd hgP.out (Nat.lt_irrefl _))
      have hbr6 := below_of_only hbr5 hr6.2 (Nat.le_of_lt hgP.out) hbr5.size
      obtain ⟨ya, yn, yc, rfl⟩ := hy.val
      have hbB : Below w6.heap.size w6 (w6.alloc (.cells #[.slice xa' xn' xc', .slice ya yn yc] 74)) := (Below.refl _ _).alloc (Nat.le_refl _) _
      have hO7 := hO6.below hbB
      have hx7 := hx6.below hbB (Nat.le_refl _)
      have hy7 := hy.below hbB (Nat.le_refl _)
      have kP7 := kP6.belowS hbB
      have HR7 := Lib.hid (hr6.1.below hbB)
      have hbr7 := hbr6.trans (hbB.mono hbr6.size)
      have hc1 := (Blk.new w6 74 #[.slice xa' xn' xc', .slice ya yn yc]).cell 0
      have hc2 := (Blk.new w6 74 #[.slice xa' xn' xc', .slice ya yn yc]).cell 1
      have HSTP : Hid (rdN p2 p3 (k + 1) S0 = (acc ++ [(x', (bI p3 rb1 re1).1)], (bI p3 rb1 re1).2.1, (bI p3 rb1 re1).2.2)) := by
        show rdN p2 p3 (k + 1) S0 = _
        rw [HST.out]; unfold rdStep; simp only [HB1.out]
      clear hO5 hO6 hx hx6 hy kP5 kP6 hr6 hbr5 hbr6 hbB q3
      go_wp2_with (at_builtin; refine wpList_append_pair rfl _ _ rfl w.heap.size _ _ rfl hO7 w6.heap.size 1 rfl (.slice xa' xn' xc') (.slice ya yn yc) hc1 hc2 (x', (bI p3 rb1 re1).1) hx7 hy7 HLEN.out hbr7.size ?_)
      intro l8 w8 hO8 hb8 hg8
      have kP8 := hO7.blk kP7 (by decide) hg8
      have HR8 := Lib.hid (hO7.rrd HR7.out hg8)
      have hbr8 := hbr7.trans hb8
      clear hO7 hx7 hy7 kP7 hbr7 hb8 hg8 hc1 hc2
      go_wp2
      refine ⟨⟨k + 1, l8, rfl, by omega, by go_num, ?_, ?_, kP8, hbr8⟩, by simp [intOf]; omega⟩
      · rw [HSTP.out]; exact hO8
      · rw [HSTP.out]; exact HR8
    · obtain rfl : k = N := by omega
      have hkI : ¬ (k : Int) < (k : Int) := by omega
      rw [← HALL.out] at hO hrd
      have HRS : Hid (readS p2 p3 bs = if (rdAll p2 p3 bs).2.2 = 0 then rdAll p2 p3 bs else ([], [], (rdAll p2 p3 bs).2.2)) := rfl
      generalize rdAll p2 p3 bs = A at *
      obtain ⟨acc, rest, er⟩ := A
      simp only at hO hrd HRS
      obtain ⟨oa, oc, rfl⟩ := hO.out.val
      obtain ⟨rv, kr, hrv⟩ := hrd.out
      obtain ⟨ra, rn, rc, rfl⟩ := hrv.val
      have e1 : wr.cell? ⟨g, 1, none⟩ = some (.int .i64 er) := kr.cell 1
      have e0 : wr.cell? ⟨g, 0, none⟩ = some (.slice ra rn rc) := kr.cell 0
      have HBD := Lib.hid hO.out.bds
      by_cases he : er = 0
      · rw [if_pos he] at HRS
        subst he
        clear kr
        go_wp2
        go_quiet (fail)
        have hbr := below_drewN hbr nq
        have hbd := HBD.out.below (below_drewN (Below.refl wr.heap.size wr) nq) (Nat.le_refl _)
        have hrv := hrv.below (below_drewN (Below.refl wr.heap.size wr) nq) (Nat.le_refl _)
        generalize wr.drewN nq = w9 at *
        go_wp2
        go_ret3
        rw [HRS.out]
        exact ⟨_, _, rfl, hbd, hrv, hbr⟩
      · rw [if_neg he] at HRS
        clear kr hrv
        go_wp2
        go_quiet (fail)
        have hbr := below_drewN hbr nq
        generalize wr.drewN nq = w9 at *
        go_wp2
        go_ret3
        rw [HRS.out]
        exact ⟨_, _, rfl, Bds.nil _, Sl.nil _, hbr⟩

end Go.Proofs.Ytpdajglcpkfonaa
