/- Step.Do: a step on both devices (printed by gen_do.py). -/
import Derived.Test.YteaimjfpmacgeaaRvG
import Derived.Test.YteaimjfpmacgeaaSpoil
import Derived.Test.YteaimjfpmacgeaaDvT
import Derived.Deep.RegionHeld3
import Derived.Deep.Cut
namespace Go.Proofs.Yteaimjfpmacgeaa
open Go.RowKit
set_option linter.unusedVariables false

/-- Which step it is. -/
def sop (op : Int) : Int := wrap64 ((IntKind.u64.wrap op).tmod 6)
def DSt.step (d : DSt) (p : Stp) : DSt :=
  if sop p.1 = 0 then d.wrote p.2.1 (padTo 64 p.2.2) else if sop p.1 = 1 then d.wrote p.2.1 p.2.2 else if sop p.1 = 2 then d.synced else if sop p.1 = 3 then d.fuse p.2.1 else d.crash p.2.2
theorem Dev.drew {w : World} {g b : Nat} {d : DSt} (h : Dev w g b d) : Dev w.drew g b d := h.only (bs := []) (Only.refl [] w).drew (by simp) (by simp)
theorem Dev.free {w : World} {g b : Nat} {d : DSt} (h : Dev w g b d) : RFree w [g, b] := by
  intro k hk cur
  obtain ⟨cap, _, _, k1⟩ := h.blk
  obtain ⟨cur2, k2⟩ := h.row.typ
  rcases List.mem_cons.1 hk with rfl | hk
  · exact ⟨fun q => Blk.ne_ q k1 (by decide) rfl, fun q => Blk.ne_ q k1 (by decide) rfl, fun q => Blk.ne_ q k1 (by decide) rfl, fun q => Blk.ne_ q k1 (by decide) rfl⟩
  · obtain rfl : k = b := by simpa using hk
    exact ⟨fun q => Blk.ne_ q k2 (by decide) rfl, fun q => Blk.ne_ q k2 (by decide) rfl, fun q => Blk.ne_ q k2 (by decide) rfl, fun q => Blk.ne_ q k2 (by decide) rfl⟩
theorem RDev.apart {w : World} {y gl gk gw g b : Nat} {d d' : DSt} (h : RDev w y gl gk gw d) (hd : Dev w g b d') : g ∉ [y, gl, gk, gw] ∧ b ∉ [y, gl, gk, gw] := by
  have hf := hd.free
  obtain ⟨cl, ck, cw, _, _, _, k⟩ := h.blk
  obtain ⟨c1, k1⟩ := h.rl.typ
  obtain ⟨c2, k2⟩ := h.rk.typ
  obtain ⟨c3, k3⟩ := h.rw.typ
  have key : ∀ m ∈ [g, b], m ∉ [y, gl, gk, gw] := by
    intro m hm hx
    have q := hf m hm
    simp only [List.mem_cons, List.not_mem_nil, or_false] at hx
    rcases hx with rfl | rfl | rfl | rfl
    · exact (q _).2.2.2 k
    · exact (q _).2.1 k1
    · exact (q _).2.1 k2
    · exact (q _).2.2.1 k3
  exact ⟨key g (by simp), key b (by simp)⟩
theorem Dev.keepB {w w' : World} {g b B : Nat} {d : DSt} (h : Dev w g b d) (hb : Below B w w') (hg : g < B) (hbb : b < B) : Dev w' g b d := by
  obtain ⟨⟨cap, h1, h2, k⟩, r, p, o⟩ := h
  exact ⟨⟨cap, h1, h2, k.below hb hg⟩, r.keep (hb.block b hbb), p, o⟩
theorem Only.then_below {bs : List Nat} {a b c : World} {B : Nat} (h : Only bs a b) (hb : Below B b c) (hB : a.heap.size ≤ B) : Only bs a c :=
  ⟨hb.os.trans h.os, hb.tape.trans h.tape, hb.output.trans h.output, Nat.le_trans h.size hb.size, fun k hk hn => (hb.block k (by omega)).trans (h.block k hk hn)⟩
/-- Both devices, of one content. -/
structure Pair (w : World) (g b y gl gk gw : Nat) (d : DSt) : Prop where
  dev : Dev w g b d
  ref : RDev w y gl gk gw d
/-- A text that lies in neither. -/
def Off (u : Value) (bs : List Nat) : Prop := ∀ k ∈ bs, ∀ o n c, 0 < n → u ≠ .slice (some ⟨k, o, none⟩) n c

set_option maxRecDepth 100000 in
set_option maxHeartbeats 4000000 in
theorem do_any (w : World) (g b y gl gk gw : Nat) (d : DSt) (op i : Int) (u : Value) (bs : List Int) (hP : Pair w g b y gl gk gw d) (hB : StpB (op, i, bs)) (hu : Sl w u (bs.map (Value.int .u8))) (hoff : Off u [g, b, y, gl, gk, gw]) :
    Calls Try.prog 26 #[.agg #[.int .i64 op, .int .i64 i, u], .pointer (some ⟨g, 0, none⟩), .pointer (some ⟨y, 0, none⟩)] w fun e w' => e = .returned (.bool true) ∧ Pair w' g b y gl gk gw (d.step (op, i, bs)) ∧ Only [g, b, y, gl, gk, gw] w w' := by
  obtain ⟨ua, un, uc, rfl⟩ := hu.val
  have hbA : Below w.heap.size w (w.alloc (.cells #[.int .i64 op, .int .i64 i, .slice ua un uc] 36)) := (Below.refl _ _).alloc (Nat.le_refl _) _
  have kA := Blk.new w 36 #[.int .i64 op, .int .i64 i, .slice ua un uc]
  have hsn : w.heap.size ∉ [g, b, y, gl, gk, gw] := by
    have hD := hP.dev
    have hR := hP.ref
    obtain ⟨cap, _, _, k1⟩ := hD.blk
    obtain ⟨cl, ck, cw, _, _, _, k⟩ := hR.blk
    obtain ⟨c1, q1⟩ := hR.rl.typ
    obtain ⟨c2, q2⟩ := hR.rk.typ
    obtain ⟨c3, q3⟩ := hR.rw.typ
    have := k1.lt; have := hD.row.lt; have := k.lt; have := q1.lt; have := q2.lt; have := q3.lt
    simp; omega
  have hD1 := hP.dev.below hbA
  have hR1 := hP.ref.below hbA
  have hu1 := hu.below hbA (Nat.le_refl _)
  have hO1 := Only.of_below [g, b, y, gl, gk, gw] hbA
  have hx := hP.ref.apart hP.dev
  have HX := Lib.hid hx
  have HSN := Lib.hid hsn
  have HOF := Lib.hid hoff
  have HBB := Lib.hid hB
  have HPD := Lib.hid (padTo_isB hB.2.2 64)
  clear hP hbA hu hsn hx hoff hB
  generalize hW : (w.alloc (.cells #[.int .i64 op, .int .i64 i, .slice ua un uc] 36)) = w1 at *
  obtain ⟨c0, c1, c2⟩ := cell3 kA
  have HK := Lib.hid kA
  have HD := Lib.hid hD1
  have HR := Lib.hid hR1
  have HU := Lib.hid hu1
  have HO := Lib.hid hO1
  have HW := Lib.hid hW
  clear kA hD1 hR1 hu1 hO1 hW
  have frU : Hid (∀ w', Only [g, b, y, gl, gk, gw] w1 w' → Sl w' (.slice ua un uc) (bs.map (Value.int .u8))) := Lib.hid fun w' q => HU.out.onlyNe q HOF.out
  have frK : Hid (∀ w', Only [g, b, y, gl, gk, gw] w1 w' → w'.cell? ⟨w.heap.size, 0, none⟩ = some (.int .i64 op) ∧ w'.cell? ⟨w.heap.size, 1, none⟩ = some (.int .i64 i) ∧ w'.cell? ⟨w.heap.size, 2, none⟩ = some (.slice ua un uc)) := Lib.hid fun w' q => cell3 (q.blk HK.out HSN.out)
  by_cases h0 : sop op = 0
  · have hst : d.step (op, i, bs) = d.wrote i (padTo 64 bs) := if_pos h0
    rw [hst]
    have h0 : wrap64 ((IntKind.u64.wrap op).tmod 6) = 0 := h0
    have HFU := Lib.hid (full_any op i (.slice ua un uc) bs w1 HU.out)
    go_enter Try.func26, Try.ntmps26
    go_upto_region 1 with (fail)
    rw [HW.out]
    go_wp2_with fail
    refine HFU.out.mono ?_
    rintro e w2 ⟨x, rfl, hx2, hb2⟩
    obtain ⟨xa, xn, xc, rfl⟩ := hx2.sl.val
    have hD2 := HD.out.below hb2
    have hO2 := Only.of_below [g, b] hb2
    have k2 := frK.out _ (Only.of_below _ hb2)
    have HDC := Lib.hid (dwrite_any w2 g b d i _ (padTo 64 bs) hD2 HPD.out hx2.sl (hx2.neB hD2.row))
    have HX2 := Lib.hid hx2
    have HD2 := Lib.hid hD2
    have HO2 := Lib.hid hO2
    have HB2 := Lib.hid hb2
    obtain ⟨c0, c1, c2⟩ := k2
    clear hx2 hD2 hO2 hb2 HFU
    go_wp2_with fail
    refine HDC.out.mono ?_
    rintro e w3 ⟨rfl, hD3, hO3⟩
    have hx3 := HX2.out.dev HD2.out hO3
    have hO3 := HO2.out.trans hO3
    have hbA : Below w3.heap.size w3 (w3.alloc (.cells #[.slice xa xn xc] 29)) := (Below.refl _ _).alloc (Nat.le_refl _) _
    have hlit : (w3.alloc (.cells #[.slice xa xn xc] 29)).ownsRow w3.heap.size 29 1 (.slice (some ⟨w3.heap.size, 0, none⟩) 1 1) 1 [.slice xa xn xc] := World.ownsRow_lit (base := w3.heap.size) (e := 29) (size := 1) w3 #[.slice xa xn xc] 1 (Nat.le_refl _) (by simp [maxLen]) (by simp)
    have hAR : ARow (w3.alloc (.cells #[.slice xa xn xc] 29)) w1.heap.size (.slice (some ⟨w3.heap.size, 0, none⟩) 1 1) [.slice xa xn xc] := ⟨ownsRow_low hlit hO3.size, fun u hu => by
      obtain rfl : u = Value.slice xa xn xc := by simpa using hu
      exact ⟨_, hx3.below hbA⟩⟩
    have hO4 := hO3.trans (Only.of_below [g, b] hbA)
    have HSP := Lib.hid (spoil_any w1.heap.size _ _ _ (by simp) hAR hO4.size)
    have hD4 := hD3.below hbA
    have HD4 := Lib.hid hD4
    have HO4 := Lib.hid hO4
    clear hD3 hO3 hx3 hbA hlit hAR hD4 hO4 HDC
    go_wp2_with fail
    refine HSP.out.mono ?_
    rintro e w5 ⟨rfl, hb5⟩
    have hlt : g < w1.heap.size ∧ b < w1.heap.size := by
      obtain ⟨cap, _, _, k1⟩ := HD.out.blk
      exact ⟨k1.lt, HD.out.row.lt⟩
    have hD5 := HD4.out.keepB hb5 hlt.1 hlt.2
    have hO5 : Only [g, b] w1 w5 := HO4.out.then_below hb5 (Nat.le_refl _)
    have hR5 := HR.out.only hO5 HD.out.free
    have hO5 : Only [g, b, y, gl, gk, gw] w1 w5 := hO5.mono (cs := [g, b, y, gl, gk, gw]) (by intro q hq; simp at hq ⊢; omega)
    have HFU := Lib.hid (fun w' (q : Only [g, b, y, gl, gk, gw] w1 w') => full_any op i (.slice ua un uc) bs w' (frU.out w' q))
    have HRC := Lib.hid (fun w' z (q : RDev w' y gl gk gw d) (r : OB w' w5.drew.heap.size z (padTo 64 bs)) => rwrite_any w' y gl gk gw d i z (padTo 64 bs) q HPD.out r.sl)
    have HR5 := Lib.hid hR5.drew
    have HD5 := Lib.hid hD5.drew
    have HO5 := Lib.hid hO5.drew
    have hG := Lib.hid (frK.out _ hO5.drew)
    obtain ⟨c0, c1, c2⟩ := frK.out _ hO5
    clear hb5 hlt hD5 hR5 hO5 HSP HD4 HO4 HX2 HD2 HO2 HB2
    go_wp2
    go_region_held3 (fun w' => w'.cell? ⟨w.heap.size, 0, none⟩ = some (.int .i64 op) ∧ w'.cell? ⟨w.heap.size, 1, none⟩ = some (.int .i64 i) ∧ w'.cell? ⟨w.heap.size, 2, none⟩ = some (.slice ua un uc)) (exact hG.out) (first
      | (go_at_call 47; refine (HRC.out _ _ hR7 hz7).mono ?_; rintro e w8 ⟨rfl, hR8, hO8⟩; have hG := Lib.hid (frK.out _ (hO7.trans (hO8.mono (cs := [g, b, y, gl, gk, gw]) (by intro q hq; simp at hq ⊢; omega)))))
      | (go_at_call 12; refine (HFU.out _ HO5.out).mono ?_; rintro e w7 ⟨z, rfl, hz7, hb7⟩; obtain ⟨za, zn, zc, rfl⟩ := hz7.sl.val; have hR7 := HR5.out.below hb7; have hD7 := HD5.out.below hb7; have hO7 := HO5.out.trans (Only.of_below [g, b, y, gl, gk, gw] hb7); have hG := Lib.hid (frK.out _ hO7)))
    all_goals
      have hx7 := hR7.apart hD7
      have hD8 := hD7.only hO8 (fun hm => hx7.1 (by simp at hm ⊢; omega)) (fun hm => hx7.2 (by simp at hm ⊢; omega))
      have hO9 := HO.out.trans (hO7.trans (hO8.mono (cs := [g, b, y, gl, gk, gw]) (by intro q hq; simp at hq ⊢; omega)))
      have HF := Lib.hid (show Pair w8 g b y gl gk gw _ from ⟨hD8, hR8⟩)
      have HO9 := Lib.hid hO9
      clear hx7 hD8 hO9 hR8 hO8 hD7 hR7 hO7 hz7 hb7 hG
      go_wp2
      go_ret
      exact ⟨rfl, HF.out, HO9.out⟩
  · by_cases h1 : sop op = 1
    · have hst : d.step (op, i, bs) = d.wrote i bs := by unfold DSt.step; rw [if_neg h0, if_pos h1]
      rw [hst]
      have h1 : wrap64 ((IntKind.u64.wrap op).tmod 6) = 1 := h1
      clear h0 hst
      have HDC := Lib.hid (fun w' (q : Dev w' g b d) (r : Sl w' (.slice ua un uc) (bs.map (Value.int .u8))) => dwrite_any w' g b d i (.slice ua un uc) bs q HBB.out.2.2 r (HOF.out b (by simp)))
      have HRC := Lib.hid (fun w' (q : RDev w' y gl gk gw d) (r : Sl w' (.slice ua un uc) (bs.map (Value.int .u8))) => rwrite_any w' y gl gk gw d i (.slice ua un uc) bs q HBB.out.2.2 r)
      have HDd := Lib.hid HD.out.drew
      have HRd := Lib.hid HR.out.drew
      have HDf := Lib.hid HD.out.drew.free
      have hG := Lib.hid (show w1.drew.cell? ⟨w.heap.size, 0, none⟩ = some (.int .i64 op) ∧ w1.drew.cell? ⟨w.heap.size, 1, none⟩ = some (.int .i64 i) ∧ w1.drew.cell? ⟨w.heap.size, 2, none⟩ = some (.slice ua un uc) from ⟨c0, c1, c2⟩)
      go_enter Try.func26, Try.ntmps26
      go_upto_region 1 with (fail)
      rw [HW.out]
      clear c1 c2
      go_wp2
      go_region_held3 (fun w' => w'.cell? ⟨w.heap.size, 0, none⟩ = some (.int .i64 op) ∧ w'.cell? ⟨w.heap.size, 1, none⟩ = some (.int .i64 i) ∧ w'.cell? ⟨w.heap.size, 2, none⟩ = some (.slice ua un uc)) (exact hG.out) (first
        | (go_at_call 47; refine (HRC.out _ hR7 hU7).mono ?_; rintro e w8 ⟨rfl, hR8, hO8⟩; have hG := Lib.hid (frK.out _ (hO7.trans (hO8.mono (cs := [g, b, y, gl, gk, gw]) (by intro q hq; simp at hq ⊢; omega)))))
        | (go_at_call 13; refine (HDC.out _ HDd.out (frU.out _ (Only.refl _ w1).drew)).mono ?_; rintro e w7 ⟨rfl, hD7, hO7⟩; have hR7 := HRd.out.only hO7 HDf.out; have hO7 : Only [g, b, y, gl, gk, gw] w1 w7 := (Only.refl _ w1).drew.trans (hO7.mono (cs := [g, b, y, gl, gk, gw]) (by intro q hq; simp at hq ⊢; omega)); have hU7 := frU.out _ hO7; have hG := Lib.hid (frK.out _ hO7)))
      all_goals
        have hx7 := hR7.apart hD7
        have hD8 := hD7.only hO8 (fun hm => hx7.1 (by simp at hm ⊢; omega)) (fun hm => hx7.2 (by simp at hm ⊢; omega))
        have hO9 := HO.out.trans (hO7.trans (hO8.mono (cs := [g, b, y, gl, gk, gw]) (by intro q hq; simp at hq ⊢; omega)))
        have HF := Lib.hid (show Pair w8 g b y gl gk gw _ from ⟨hD8, hR8⟩)
        have HO9 := Lib.hid hO9
        clear hx7 hD8 hO9 hR8 hO8 hD7 hR7 hO7 hU7 hG
        go_wp2
        go_ret
        exact ⟨rfl, HF.out, HO9.out⟩
    · by_cases h2 : sop op = 2
      · have hst : d.step (op, i, bs) = d.synced := by unfold DSt.step; rw [if_neg h0, if_neg h1, if_pos h2]
        rw [hst]
        have h2 : wrap64 ((IntKind.u64.wrap op).tmod 6) = 2 := h2
        clear h0 h1 hst
        have HDC := Lib.hid (dsync_any w1 g b d HD.out)
        go_enter Try.func26, Try.ntmps26
        go_upto_region 1 with (fail)
        rw [HW.out]
        go_wp2_with fail
        refine HDC.out.mono ?_
        rintro e w2 ⟨rfl, hD2, hO2⟩
        have hR2 := HR.out.only hO2 HD.out.free
        have HX2 := Lib.hid (hR2.apart hD2)
        have hO2 := hO2.mono (cs := [g, b, y, gl, gk, gw]) (by intro q hq; simp at hq ⊢; omega)
        have HRC := Lib.hid (rsync_any w2 y gl gk gw d hR2)
        have HD2 := Lib.hid hD2
        have HO2 := Lib.hid hO2
        clear hR2 hD2 hO2 HDC
        go_wp2_with fail
        refine HRC.out.mono ?_
        rintro e w3 ⟨rfl, hR3, hO3⟩
        have hD3 := HD2.out.only hO3 (fun hm => HX2.out.1 (by simp at hm ⊢; omega)) (fun hm => HX2.out.2 (by simp at hm ⊢; omega))
        have hO3 := HO2.out.trans (hO3.mono (cs := [g, b, y, gl, gk, gw]) (by intro q hq; simp at hq ⊢; omega))
        have HD3 := Lib.hid hD3
        have HR3 := Lib.hid hR3
        have HO3 := Lib.hid hO3
        clear hD3 hR3 hO3 HRC
        go_wp2
        go_ret
        exact ⟨rfl, ⟨HD3.out, HR3.out⟩, HO.out.trans HO3.out⟩
      · by_cases h3 : sop op = 3
        · have hst : d.step (op, i, bs) = d.fuse i := by unfold DSt.step; rw [if_neg h0, if_neg h1, if_neg h2, if_pos h3]
          rw [hst]
          have h3 : wrap64 ((IntKind.u64.wrap op).tmod 6) = 3 := h3
          clear h0 h1 h2 hst
          have HDC := Lib.hid (fun w' (q : Dev w' g b d) (_ : Sl w' (.slice ua un uc) (bs.map (Value.int .u8))) => (dfuse_any w' g b d i q).mono fun e w'' (h : _ ∧ _ ∧ _) => (⟨h.1, h.2.1, h.2.2.mono (cs := [g, b]) (by simp)⟩ : _ ∧ _ ∧ Only [g, b] w' w''))
          have HRC := Lib.hid (fun w' (q : RDev w' y gl gk gw d) (_ : Sl w' (.slice ua un uc) (bs.map (Value.int .u8))) => rfuse_any w' y gl gk gw d i HBB.out.2.1.2 q)
          have HDd := Lib.hid HD.out.drew
          have HRd := Lib.hid HR.out.drew
          have HDf := Lib.hid HD.out.drew.free
          have hG := Lib.hid (show w1.drew.cell? ⟨w.heap.size, 0, none⟩ = some (.int .i64 op) ∧ w1.drew.cell? ⟨w.heap.size, 1, none⟩ = some (.int .i64 i) ∧ w1.drew.cell? ⟨w.heap.size, 2, none⟩ = some (.slice ua un uc) from ⟨c0, c1, c2⟩)
          go_enter Try.func26, Try.ntmps26
          go_upto_region 1 with (fail)
          rw [HW.out]
          clear c1 c2
          go_wp2
          go_region_held3 (fun w' => w'.cell? ⟨w.heap.size, 0, none⟩ = some (.int .i64 op) ∧ w'.cell? ⟨w.heap.size, 1, none⟩ = some (.int .i64 i) ∧ w'.cell? ⟨w.heap.size, 2, none⟩ = some (.slice ua un uc)) (exact hG.out) (first
            | (go_at_call 49; refine (HRC.out _ hR7 hU7).mono ?_; rintro e w8 ⟨rfl, hR8, hO8⟩; have hG := Lib.hid (frK.out _ (hO7.trans (hO8.mono (cs := [g, b, y, gl, gk, gw]) (by intro q hq; simp at hq ⊢; omega)))))
            | (go_at_call 18; refine (HDC.out _ HDd.out (frU.out _ (Only.refl _ w1).drew)).mono ?_; rintro e w7 ⟨rfl, hD7, hO7⟩; have hR7 := HRd.out.only hO7 HDf.out; have hO7 : Only [g, b, y, gl, gk, gw] w1 w7 := (Only.refl _ w1).drew.trans (hO7.mono (cs := [g, b, y, gl, gk, gw]) (by intro q hq; simp at hq ⊢; omega)); have hU7 := frU.out _ hO7; have hG := Lib.hid (frK.out _ hO7)))
          all_goals
            have hx7 := hR7.apart hD7
            have hD8 := hD7.only hO8 (fun hm => hx7.1 (by simp at hm ⊢; omega)) (fun hm => hx7.2 (by simp at hm ⊢; omega))
            have hO9 := HO.out.trans (hO7.trans (hO8.mono (cs := [g, b, y, gl, gk, gw]) (by intro q hq; simp at hq ⊢; omega)))
            have HF := Lib.hid (show Pair w8 g b y gl gk gw _ from ⟨hD8, hR8⟩)
            have HO9 := Lib.hid hO9
            clear hx7 hD8 hO9 hR8 hO8 hD7 hR7 hO7 hU7 hG
            go_wp2
            go_ret
            exact ⟨rfl, HF.out, HO9.out⟩
        · have hst : d.step (op, i, bs) = d.crash bs := by unfold DSt.step; rw [if_neg h0, if_neg h1, if_neg h2, if_neg h3]
          rw [hst]
          have e0 : (wrap64 ((IntKind.u64.wrap op).tmod 6) == 0) = false := by rw [beq_eq_false_iff_ne]; exact h0
          have e1 : (wrap64 ((IntKind.u64.wrap op).tmod 6) == 1) = false := by rw [beq_eq_false_iff_ne]; exact h1
          have e2 : (wrap64 ((IntKind.u64.wrap op).tmod 6) == 2) = false := by rw [beq_eq_false_iff_ne]; exact h2
          have e3 : (wrap64 ((IntKind.u64.wrap op).tmod 6) == 3) = false := by rw [beq_eq_false_iff_ne]; exact h3
          clear h0 h1 h2 h3 hst
          have HRC := Lib.hid (rcrash_any w1 y gl gk gw d (.slice ua un uc) bs HR.out HU.out (fun k hk => HOF.out k (by simp at hk ⊢; omega)))
          go_enter Try.func26, Try.ntmps26
          go_upto_region 1 with (fail)
          rw [HW.out]
          go_wp2_with fail
          refine HRC.out.mono ?_
          rintro e w2 ⟨rfl, hR2, hO2⟩
          have hD2 := HD.out.only hO2 HX.out.1 HX.out.2
          have hO2 := hO2.mono (cs := [g, b, y, gl, gk, gw]) (by intro q hq; simp at hq ⊢; omega)
          obtain ⟨c0, c1, c2⟩ := frK.out _ hO2
          have HDC := Lib.hid (dcrash_any w2 g b d (.slice ua un uc) bs hD2 (frU.out _ hO2) (HOF.out b (by simp)))
          have HR2 := Lib.hid hR2
          have HF := Lib.hid hD2.free
          have HO2 := Lib.hid hO2
          clear hR2 hD2 hO2 HRC
          go_wp2_with fail
          refine HDC.out.mono ?_
          rintro e w3 ⟨rfl, hD3, hO3⟩
          have hR3 := HR2.out.only hO3 HF.out
          have hO3 := HO2.out.trans (hO3.mono (cs := [g, b, y, gl, gk, gw]) (by intro q hq; simp at hq ⊢; omega))
          have HD3 := Lib.hid hD3
          have HR3 := Lib.hid hR3
          have HO3 := Lib.hid hO3
          clear hD3 hR3 hO3 HDC
          go_wp2
          go_ret
          exact ⟨rfl, ⟨HD3.out, HR3.out⟩, HO.out.trans HO3.out⟩

end Go.Proofs.Yteaimjfpmacgeaa
