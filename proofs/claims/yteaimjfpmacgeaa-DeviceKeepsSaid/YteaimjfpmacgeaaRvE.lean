/- The reference's device: Crash (printed by gen_rve.py). -/
import Derived.Test.YteaimjfpmacgeaaRvD
import Derived.Test.YteaimjfpmacgeaaDvG
namespace Go.Proofs.Yteaimjfpmacgeaa
open Go.RowKit
set_option linter.unusedVariables false

/-- One sector's text is as it was synced. -/
theorem RDev.drop1 {w : World} {y gl gk gw : Nat} {d : DSt} (h : RDev w y gl gk gw d) {j : Nat} {s : Sec} (hj : d.l[j]? = some s) {u : Value} (hu : OB w 0 u s.kept) (hw : s.waits = true) :
    RDev (w.setCell ⟨gl, j, none⟩ u) y gl gk gw (d.withL (d.l.set j { now := s.kept, kept := s.kept, waits := true })) := by
  have hjl : j < d.l.length := (List.getElem?_eq_some_iff.1 hj).1
  obtain ⟨cl, ck, cw, h1, h2, h3, k⟩ := h.blk
  obtain ⟨c1, k1⟩ := h.rl.typ
  obtain ⟨c2, k2⟩ := h.rk.typ
  obtain ⟨c3, k3⟩ := h.rw.typ
  obtain ⟨n1, _, _, n4, _, hne⟩ := h.nes
  have hr1 := h.rl.set j hu (by rw [List.length_map]; exact hjl)
  have hk1 := h.rk.only (Only.setCell [gl] w (p := ⟨gl, j, none⟩) (by simp) u) (fun q hq c e => by
    obtain rfl : q = gl := by simpa using hq
    exact Blk.ne_ e k1 (by decide) rfl) (by simp; exact fun e => hne e.symm)
  have hw1 := h.rw.only (Only.setCell [gl] w (p := ⟨gl, j, none⟩) (by simp) u) (by simp; exact fun e => n4 e.symm)
  have so := h.ok s (List.mem_of_getElem? hj)
  refine ⟨⟨cl, ck, cw, by show (List.set _ _ _).length ≤ _ ∧ _; rw [List.length_set]; exact h1, by show (List.set _ _ _).length ≤ _ ∧ _; rw [List.length_set]; exact h2, by show (List.set _ _ _).length ≤ _ ∧ _; rw [List.length_set]; exact h3, ?_⟩, ?_, ?_, ?_, hne, by rw [show (d.withL (d.l.set j { now := s.kept, kept := s.kept, waits := true })).l.length = d.l.length from List.length_set ..]; exact h.pos, h.burns, set_ok h.ok ⟨so.2.1, so.2.1, so.2.2.2.1, so.2.2.2.1, fun _ => rfl⟩⟩
  · show Blk _ y _ (rdCells gl gk gw (List.set _ _ _).length cl ck cw _)
    rw [List.length_set]
    exact k.far (p := ⟨gl, j, none⟩) n1 u
  · show TRow _ gl ((d.l.set j _).map Sec.now)
    rw [List.map_set]; exact hr1
  · show TRow _ gk ((d.l.set j _).map Sec.kept)
    rw [List.map_set]
    have e : (d.l.map Sec.kept).set j s.kept = d.l.map Sec.kept := by
      apply List.ext_getElem?; intro m
      by_cases q : j = m
      · subst q; rw [List.getElem?_set_self (by rw [List.length_map]; exact hjl), List.getElem?_map, hj]; rfl
      · rw [List.getElem?_set_ne q]
    show TRow _ gk ((d.l.map Sec.kept).set j s.kept)
    rw [e]; exact hk1
  · show BRow _ gw ((d.l.set j _).map Sec.waits)
    rw [List.map_set]
    have e : (d.l.map Sec.waits).set j true = d.l.map Sec.waits := by
      apply List.ext_getElem?; intro m
      by_cases q : j = m
      · subst q; rw [List.getElem?_set_self (by rw [List.length_map]; exact hjl), List.getElem?_map, hj]; exact congrArg some hw.symm
      · rw [List.getElem?_set_ne q]
    show BRow _ gw ((d.l.map Sec.waits).set j true)
    rw [e]; exact hw1
theorem RDev.drew {w : World} {y gl gk gw : Nat} {d : DSt} (h : RDev w y gl gk gw d) : RDev w.drew y gl gk gw d := h.only (bs := []) ⟨rfl, rfl, rfl, Nat.le_refl _, fun _ _ _ => rfl⟩ (by intro q hq; cases hq)
theorem Sl.onlyNe {w w' : World} {v : Value} {xs : List Value} {bs : List Nat} (h : Sl w v xs) (ho : Only bs w w') (hne : ∀ b ∈ bs, ∀ o n c, 0 < n → v ≠ .slice (some ⟨b, o, none⟩) n c) : Sl w' v xs := by
  obtain ⟨a, cap, rfl, h1, h2, h3⟩ := h
  refine ⟨a, cap, rfl, h1, h2, fun hn => ?_⟩
  obtain ⟨b, off, e, hlt, hc⟩ := h3 hn
  refine ⟨b, off, e, Nat.lt_of_lt_of_le hlt ho.size, fun j u hj => ?_⟩
  have hb : b ∉ bs := fun hm => hne b hm off xs.length cap hn (by rw [e])
  exact (ho.cell (p := ⟨b, off + j, none⟩) hlt hb).trans (hc j u hj)
theorem wlN_succ_t {l : List Bool} {k : Nat} (h : l.getD k false = true) : (wlN l (k + 1)).length = (wlN l k).length + 1 := by rw [wlN, h]; simp
theorem wlN_succ_f {l : List Bool} {k : Nat} (h : l.getD k false = false) : (wlN l (k + 1)).length = (wlN l k).length := by rw [wlN, h]; simp

set_option maxRecDepth 100000 in
set_option maxHeartbeats 4000000 in
theorem rcrash_any (w : World) (y gl gk gw : Nat) (d : DSt) (v : Value) (keep : List Int) (h : RDev w y gl gk gw d) (hv : Sl w v (keep.map (Value.int .u8))) (hne : ∀ b ∈ [gl, gk, gw], ∀ o n c, 0 < n → v ≠ .slice (some ⟨b, o, none⟩) n c) :
    Calls Try.prog 29 #[.pointer (some ⟨y, 0, none⟩), v] w fun e w' => e = .returned (.tuple #[]) ∧ RDev w' y gl gk gw (d.crash keep) ∧ Only [y, gl, gk, gw] w w' := by
  have HV := Lib.hid hv
  have HNE := Lib.hid hne
  have HD := Lib.hid h
  have hn := h.pos.2
  obtain ⟨va, vc, rfl, hvc, hvm⟩ := hv.shape
  rw [List.length_map] at *
  obtain ⟨cl0, ck0, cw0, h1, h2, h3, kb⟩ := h.blk
  have c0 : w.cell? ⟨y, 0, none⟩ = some (.slice (some ⟨gl, 0, none⟩) d.l.length cl0) := kb.cell 0
  clear h hv hne h1 h2 h3 kb
  go_enter Try.func29, Try.ntmps29
  go_wp2
  go_loopw [4, 11] (fun p i wr => ∃ (k kk : Nat), k ≤ d.l.length ∧ i = .int .i64 k ∧ p = .int .i64 kk ∧ kk = (wlN d.ws k).length ∧ RDev wr y gl gk gw (d.withL (upN (crF d.ws keep) d.l k)) ∧ Only [gl, gk, gw] w wr) (fun _ i _ => d.l.length - (intOf i).toNat)
  case atStart => exact ⟨0, 0, by omega, rfl, rfl, rfl, by rw [upN_zero]; exact HD.out, Only.refl _ _⟩
  case round =>
    obtain ⟨k, kk, hk, rfl, rfl, hkk, hr, ho⟩ := hrel
    by_cases hlt : k < d.l.length
    · have hkI : (k : Int) < (d.l.length : Int) := by omega
      have hg : d.l[k]? = some d.l[k] := List.getElem?_eq_getElem hlt
      have hU := upN_set (crF d.ws keep) hg
      have hg2 := upN_at (crF d.ws keep) hg
      have hwk : wrap64 ((k : Int) + 1) = ((k + 1 : Nat) : Int) := by rw [wrap64]; omega
      have hkk2 : kk ≤ 16384 := by have := wlN_bound d.ws k; omega
      have hwkk : wrap64 ((kk : Int) + 1) = ((kk + 1 : Nat) : Int) := by rw [wrap64]; omega
      have hwa := ws_at hg
      have hso := HD.out.ok _ (List.mem_of_getElem? hg)
      generalize d.l[k] = s at *
      have hlen : (d.withL (upN (crF d.ws keep) d.l k)).l.length = d.l.length := upN_len _ _ _
      by_cases hsw : s.waits = true
      · rw [hsw] at hwa
        have hk1 : (wlN d.ws (k + 1)).length = (wlN d.ws k).length + 1 := wlN_succ_t hwa
        by_cases hdrop : keep.length ≤ kk ∨ keep.getD kk 0 = 0
        · -- the sector falls back
          have hcr : crF d.ws keep k s = { now := s.kept, kept := s.kept, waits := false } := by unfold crF; rw [if_pos hsw, ← hkk]; exact if_pos hdrop
          rw [hcr] at hU
          obtain ⟨cl, ck, cw, na, nn, nc, ka, kn, kc, hcs, hA⟩ := hr.at_ hg2
          rw [hlen] at hA hcs
          have hnes := hr.nes
          have hr6 := hr.drop1 hg2 hA.ok hsw
          have ho6 : Only [gl, gk, gw] w (wr.setCell ⟨gl, k, none⟩ (.slice ka kn kc)) := ho.trans (Only.setCell _ _ (by simp) _)
          have hU2 := Lib.hid hU
          have HR6 := Lib.hid hr6.drew
          have HO6 := Lib.hid ho6.drew
          have HO0 := Lib.hid ho
          have HSO := Lib.hid hso
          have HNES := Lib.hid hnes
          have HK1 := Lib.hid hk1
          have HKK := Lib.hid hkk
          have y0 : wr.drew.cell? ⟨y, 0, none⟩ = some (.slice (some ⟨gl, 0, none⟩) d.l.length cl) := hA.y0
          have y1 : wr.drew.cell? ⟨y, 1, none⟩ = some (.slice (some ⟨gk, 0, none⟩) d.l.length ck) := hA.y1
          have k0 : wr.drew.cell? ⟨gk, k, none⟩ = some (.slice ka kn kc) := hA.k0
          have l0 : wr.cell? ⟨gl, k, none⟩ = some (.slice na nn nc) := hA.l0
          have fl : wr.frozen? ⟨gl, k, none⟩ = false := hA.fl
          have x0 : wr.cell? ⟨y, 0, none⟩ = some (.slice (some ⟨gl, 0, none⟩) d.l.length cl) := hA.y0
          have x2 : wr.cell? ⟨y, 2, none⟩ = some (.slice (some ⟨gw, 0, none⟩) d.l.length cw) := hA.y2
          have xw : wr.cell? ⟨gw, k, none⟩ = some (.bool true) := by rw [← hsw]; exact hA.w0
          have HG0 := Lib.hid (show wr.drew.cell? ⟨y, 0, none⟩ = some (.slice (some ⟨gl, 0, none⟩) d.l.length cl) ∧ wr.drew.cell? ⟨y, 1, none⟩ = some (.slice (some ⟨gk, 0, none⟩) d.l.length ck) ∧ wr.drew.cell? ⟨gk, k, none⟩ = some (.slice ka kn kc) from ⟨y0, y1, k0⟩)
          have HG1 := Lib.hid (show (wr.drew.setCell ⟨gl, k, none⟩ (.slice ka kn kc)).cell? ⟨y, 0, none⟩ = some (.slice (some ⟨gl, 0, none⟩) d.l.length cl) ∧ (wr.drew.setCell ⟨gl, k, none⟩ (.slice ka kn kc)).cell? ⟨y, 1, none⟩ = some (.slice (some ⟨gk, 0, none⟩) d.l.length ck) ∧ (wr.drew.setCell ⟨gl, k, none⟩ (.slice ka kn kc)).cell? ⟨gk, k, none⟩ = some (.slice ka kn kc) from
            ⟨far_ y0 hnes.1.symm, far_ y1 hnes.1.symm, far_ k0 hnes.2.2.2.2.2⟩)
          clear hg hU hg2 hA hnes hr ho hcs hcr hr6 ho6 hso hk1 hkk hwa
          by_cases hkl : keep.length ≤ kk
          · have hkkI : (keep.length : Int) ≤ (kk : Int) := by omega
            clear hdrop
            go_wp2
            go_region_held3 (fun w' => w'.cell? ⟨y, 0, none⟩ = some (.slice (some ⟨gl, 0, none⟩) d.l.length cl) ∧ w'.cell? ⟨y, 1, none⟩ = some (.slice (some ⟨gk, 0, none⟩) d.l.length ck) ∧ w'.cell? ⟨gk, k, none⟩ = some (.slice ka kn kc)) (first | exact HG0.out | exact HG1.out) (first | fail)
            all_goals
              go_upto_region 8 with (fail)
              generalize (wr.setCell ⟨gl, k, none⟩ (.slice ka kn kc)).drew = w6 at *
              clear y0 y1 k0 l0 fl x0 x2 xw HG0 HG1 HD
              have hr6 : RDev w6 y gl gk gw (d.withL ((upN (crF d.ws keep) d.l k).set k { now := s.kept, kept := s.kept, waits := true })) := HR6.out
              have ho6 := HO6.out
              have hS : ((upN (crF d.ws keep) d.l k).set k ({ now := s.kept, kept := s.kept, waits := true } : Sec))[k]? = some { now := s.kept, kept := s.kept, waits := true } := List.getElem?_set_self (by rw [upN_len]; exact hlt)
              have hlen6 : (d.withL ((upN (crF d.ws keep) d.l k).set k { now := s.kept, kept := s.kept, waits := true })).l.length = d.l.length := by show (List.set _ _ _).length = _; rw [List.length_set, upN_len]
              obtain ⟨cl, ck, cw, na, nn, nc, ka, kn, kc, hcs, hA⟩ := hr6.at_ hS
              rw [hlen6] at hA hcs
              have hnes := hr6.nes
              have hU3 : ((upN (crF d.ws keep) d.l k).set k ({ now := s.kept, kept := s.kept, waits := true } : Sec)).set k (Sec.settled { now := s.kept, kept := s.kept, waits := true }) = upN (crF d.ws keep) d.l (k + 1) := by rw [List.set_set]; exact hU2.out
              clear HR6 HO6
              have HS1 := Lib.hid (show RDev ((w6.setCell ⟨gk, k, none⟩ (.slice na nn nc)).setCell ⟨gw, k, none⟩ (.bool false)).drew y gl gk gw (d.withL (upN (crF d.ws keep) d.l (k + 1))) from by rw [← hU3]; exact (hr6.settle1 hS hA.on).only (bs := []) ⟨rfl, rfl, rfl, Nat.le_refl _, fun _ _ _ => rfl⟩ (by intro q hq; cases hq))
              have HOO := Lib.hid (show Only [gl, gk, gw] w ((w6.setCell ⟨gk, k, none⟩ (.slice na nn nc)).setCell ⟨gw, k, none⟩ (.bool false)).drew from (ho6.trans ((Only.setCell _ _ (by simp) _).trans (Only.setCell _ _ (by simp) _))).drew)
              have y0 : w6.drew.cell? ⟨y, 0, none⟩ = some (.slice (some ⟨gl, 0, none⟩) d.l.length cl) := hA.y0
              have y1 : w6.drew.cell? ⟨y, 1, none⟩ = some (.slice (some ⟨gk, 0, none⟩) d.l.length ck) := hA.y1
              have y2 : w6.drew.cell? ⟨y, 2, none⟩ = some (.slice (some ⟨gw, 0, none⟩) d.l.length cw) := hA.y2
              have l0 : w6.drew.cell? ⟨gl, k, none⟩ = some (.slice na nn nc) := hA.l0
              have k0 : w6.drew.cell? ⟨gk, k, none⟩ = some (.slice ka kn kc) := hA.k0
              have fk : w6.drew.frozen? ⟨gk, k, none⟩ = false := hA.fk
              have x0 : w6.cell? ⟨y, 0, none⟩ = some (.slice (some ⟨gl, 0, none⟩) d.l.length cl) := hA.y0
              have x2 : w6.cell? ⟨y, 2, none⟩ = some (.slice (some ⟨gw, 0, none⟩) d.l.length cw) := hA.y2
              have z1 : w6.cell? ⟨gw, k, none⟩ = some (.bool ({ now := s.kept, kept := s.kept, waits := true } : Sec).waits) := hA.w0
              have z2 : w6.frozen? ⟨gw, k, none⟩ = false := hA.fw
              have HG0 := Lib.hid (show w6.drew.cell? ⟨y, 0, none⟩ = some (.slice (some ⟨gl, 0, none⟩) d.l.length cl) ∧ w6.drew.cell? ⟨y, 1, none⟩ = some (.slice (some ⟨gk, 0, none⟩) d.l.length ck) ∧ w6.drew.cell? ⟨y, 2, none⟩ = some (.slice (some ⟨gw, 0, none⟩) d.l.length cw) ∧ w6.drew.cell? ⟨gl, k, none⟩ = some (.slice na nn nc) from ⟨y0, y1, y2, l0⟩)
              have HG1 := Lib.hid (show (w6.drew.setCell ⟨gk, k, none⟩ (.slice na nn nc)).cell? ⟨y, 0, none⟩ = some (.slice (some ⟨gl, 0, none⟩) d.l.length cl) ∧ (w6.drew.setCell ⟨gk, k, none⟩ (.slice na nn nc)).cell? ⟨y, 1, none⟩ = some (.slice (some ⟨gk, 0, none⟩) d.l.length ck) ∧ (w6.drew.setCell ⟨gk, k, none⟩ (.slice na nn nc)).cell? ⟨y, 2, none⟩ = some (.slice (some ⟨gw, 0, none⟩) d.l.length cw) ∧ (w6.drew.setCell ⟨gk, k, none⟩ (.slice na nn nc)).cell? ⟨gl, k, none⟩ = some (.slice na nn nc) from ⟨far_ y0 hnes.2.1.symm, far_ y1 hnes.2.1.symm, far_ y2 hnes.2.1.symm, far_ l0 hnes.2.2.2.2.2.symm⟩)
              have HG2 := Lib.hid (show ((w6.drew.setCell ⟨gk, k, none⟩ (.slice na nn nc)).setCell ⟨gw, k, none⟩ (.bool false)).cell? ⟨y, 0, none⟩ = some (.slice (some ⟨gl, 0, none⟩) d.l.length cl) ∧ ((w6.drew.setCell ⟨gk, k, none⟩ (.slice na nn nc)).setCell ⟨gw, k, none⟩ (.bool false)).cell? ⟨y, 1, none⟩ = some (.slice (some ⟨gk, 0, none⟩) d.l.length ck) ∧ ((w6.drew.setCell ⟨gk, k, none⟩ (.slice na nn nc)).setCell ⟨gw, k, none⟩ (.bool false)).cell? ⟨y, 2, none⟩ = some (.slice (some ⟨gw, 0, none⟩) d.l.length cw) ∧ ((w6.drew.setCell ⟨gk, k, none⟩ (.slice na nn nc)).setCell ⟨gw, k, none⟩ (.bool false)).cell? ⟨gl, k, none⟩ = some (.slice na nn nc) from ⟨far_ HG1.out.1 hnes.2.2.1.symm, far_ HG1.out.2.1 hnes.2.2.1.symm, far_ HG1.out.2.2.1 hnes.2.2.1.symm, far_ HG1.out.2.2.2 hnes.2.2.2.1.symm⟩)
              have p1 : ¬ gk = gw := hnes.2.2.2.2.1
              have p2 : ¬ gw = gk := fun e => hnes.2.2.2.2.1 e.symm
              clear hS hA hnes hr6 ho6
              clear hU3
              go_region_held3 (fun w' => w'.cell? ⟨y, 0, none⟩ = some (.slice (some ⟨gl, 0, none⟩) d.l.length cl) ∧ w'.cell? ⟨y, 1, none⟩ = some (.slice (some ⟨gk, 0, none⟩) d.l.length ck) ∧ w'.cell? ⟨y, 2, none⟩ = some (.slice (some ⟨gw, 0, none⟩) d.l.length cw) ∧ w'.cell? ⟨gl, k, none⟩ = some (.slice na nn nc)) (first | exact HG0.out | exact HG1.out | exact HG2.out) (first | fail)
              all_goals
                go_wp2
                exact ⟨⟨k + 1, kk + 1, hlt, by first | rfl | go_num, rfl, by rw [HK1.out, ← HKK.out], HS1.out, HOO.out⟩, by simp [intOf]; omega⟩
          · have hkkI : ¬ (keep.length : Int) ≤ (kk : Int) := by omega
            have hkL : kk < keep.length := by omega
            have hkI2 : (kk : Int) < (keep.length : Int) := by omega
            have hz : keep.getD kk 0 = 0 := hdrop.resolve_left hkl
            obtain ⟨kb, ko, rfl, hkb, hkc⟩ := (HV.out.onlyNe HO0.out HNE.out).ints (k := kk) hkL
            have ck1 := hkc kk hkL
            rw [hz] at ck1
            clear hdrop hz hkc
            go_wp2
            go_region_held3 (fun w' => w'.cell? ⟨y, 0, none⟩ = some (.slice (some ⟨gl, 0, none⟩) d.l.length cl) ∧ w'.cell? ⟨y, 1, none⟩ = some (.slice (some ⟨gk, 0, none⟩) d.l.length ck) ∧ w'.cell? ⟨gk, k, none⟩ = some (.slice ka kn kc)) (first | exact HG0.out | exact HG1.out) (first | fail)
            all_goals
              go_upto_region 8 with (fail)
              generalize (wr.setCell ⟨gl, k, none⟩ (.slice ka kn kc)).drew = w6 at *
              clear y0 y1 k0 l0 fl x0 x2 xw HG0 HG1 HD
              have hr6 : RDev w6 y gl gk gw (d.withL ((upN (crF d.ws keep) d.l k).set k { now := s.kept, kept := s.kept, waits := true })) := HR6.out
              have ho6 := HO6.out
              have hS : ((upN (crF d.ws keep) d.l k).set k ({ now := s.kept, kept := s.kept, waits := true } : Sec))[k]? = some { now := s.kept, kept := s.kept, waits := true } := List.getElem?_set_self (by rw [upN_len]; exact hlt)
              have hlen6 : (d.withL ((upN (crF d.ws keep) d.l k).set k { now := s.kept, kept := s.kept, waits := true })).l.length = d.l.length := by show (List.set _ _ _).length = _; rw [List.length_set, upN_len]
              obtain ⟨cl, ck, cw, na, nn, nc, ka, kn, kc, hcs, hA⟩ := hr6.at_ hS
              rw [hlen6] at hA hcs
              have hnes := hr6.nes
              have hU3 : ((upN (crF d.ws keep) d.l k).set k ({ now := s.kept, kept := s.kept, waits := true } : Sec)).set k (Sec.settled { now := s.kept, kept := s.kept, waits := true }) = upN (crF d.ws keep) d.l (k + 1) := by rw [List.set_set]; exact hU2.out
              clear HR6 HO6
              have HS1 := Lib.hid (show RDev ((w6.setCell ⟨gk, k, none⟩ (.slice na nn nc)).setCell ⟨gw, k, none⟩ (.bool false)).drew y gl gk gw (d.withL (upN (crF d.ws keep) d.l (k + 1))) from by rw [← hU3]; exact (hr6.settle1 hS hA.on).only (bs := []) ⟨rfl, rfl, rfl, Nat.le_refl _, fun _ _ _ => rfl⟩ (by intro q hq; cases hq))
              have HOO := Lib.hid (show Only [gl, gk, gw] w ((w6.setCell ⟨gk, k, none⟩ (.slice na nn nc)).setCell ⟨gw, k, none⟩ (.bool false)).drew from (ho6.trans ((Only.setCell _ _ (by simp) _).trans (Only.setCell _ _ (by simp) _))).drew)
              have y0 : w6.drew.cell? ⟨y, 0, none⟩ = some (.slice (some ⟨gl, 0, none⟩) d.l.length cl) := hA.y0
              have y1 : w6.drew.cell? ⟨y, 1, none⟩ = some (.slice (some ⟨gk, 0, none⟩) d.l.length ck) := hA.y1
              have y2 : w6.drew.cell? ⟨y, 2, none⟩ = some (.slice (some ⟨gw, 0, none⟩) d.l.length cw) := hA.y2
              have l0 : w6.drew.cell? ⟨gl, k, none⟩ = some (.slice na nn nc) := hA.l0
              have k0 : w6.drew.cell? ⟨gk, k, none⟩ = some (.slice ka kn kc) := hA.k0
              have fk : w6.drew.frozen? ⟨gk, k, none⟩ = false := hA.fk
              have x0 : w6.cell? ⟨y, 0, none⟩ = some (.slice (some ⟨gl, 0, none⟩) d.l.length cl) := hA.y0
              have x2 : w6.cell? ⟨y, 2, none⟩ = some (.slice (some ⟨gw, 0, none⟩) d.l.length cw) := hA.y2
              have z1 : w6.cell? ⟨gw, k, none⟩ = some (.bool ({ now := s.kept, kept := s.kept, waits := true } : Sec).waits) := hA.w0
              have z2 : w6.frozen? ⟨gw, k, none⟩ = false := hA.fw
              have HG0 := Lib.hid (show w6.drew.cell? ⟨y, 0, none⟩ = some (.slice (some ⟨gl, 0, none⟩) d.l.length cl) ∧ w6.drew.cell? ⟨y, 1, none⟩ = some (.slice (some ⟨gk, 0, none⟩) d.l.length ck) ∧ w6.drew.cell? ⟨y, 2, none⟩ = some (.slice (some ⟨gw, 0, none⟩) d.l.length cw) ∧ w6.drew.cell? ⟨gl, k, none⟩ = some (.slice na nn nc) from ⟨y0, y1, y2, l0⟩)
              have HG1 := Lib.hid (show (w6.drew.setCell ⟨gk, k, none⟩ (.slice na nn nc)).cell? ⟨y, 0, none⟩ = some (.slice (some ⟨gl, 0, none⟩) d.l.length cl) ∧ (w6.drew.setCell ⟨gk, k, none⟩ (.slice na nn nc)).cell? ⟨y, 1, none⟩ = some (.slice (some ⟨gk, 0, none⟩) d.l.length ck) ∧ (w6.drew.setCell ⟨gk, k, none⟩ (.slice na nn nc)).cell? ⟨y, 2, none⟩ = some (.slice (some ⟨gw, 0, none⟩) d.l.length cw) ∧ (w6.drew.setCell ⟨gk, k, none⟩ (.slice na nn nc)).cell? ⟨gl, k, none⟩ = some (.slice na nn nc) from ⟨far_ y0 hnes.2.1.symm, far_ y1 hnes.2.1.symm, far_ y2 hnes.2.1.symm, far_ l0 hnes.2.2.2.2.2.symm⟩)
              have HG2 := Lib.hid (show ((w6.drew.setCell ⟨gk, k, none⟩ (.slice na nn nc)).setCell ⟨gw, k, none⟩ (.bool false)).cell? ⟨y, 0, none⟩ = some (.slice (some ⟨gl, 0, none⟩) d.l.length cl) ∧ ((w6.drew.setCell ⟨gk, k, none⟩ (.slice na nn nc)).setCell ⟨gw, k, none⟩ (.bool false)).cell? ⟨y, 1, none⟩ = some (.slice (some ⟨gk, 0, none⟩) d.l.length ck) ∧ ((w6.drew.setCell ⟨gk, k, none⟩ (.slice na nn nc)).setCell ⟨gw, k, none⟩ (.bool false)).cell? ⟨y, 2, none⟩ = some (.slice (some ⟨gw, 0, none⟩) d.l.length cw) ∧ ((w6.drew.setCell ⟨gk, k, none⟩ (.slice na nn nc)).setCell ⟨gw, k, none⟩ (.bool false)).cell? ⟨gl, k, none⟩ = some (.slice na nn nc) from ⟨far_ HG1.out.1 hnes.2.2.1.symm, far_ HG1.out.2.1 hnes.2.2.1.symm, far_ HG1.out.2.2.1 hnes.2.2.1.symm, far_ HG1.out.2.2.2 hnes.2.2.2.1.symm⟩)
              have p1 : ¬ gk = gw := hnes.2.2.2.2.1
              have p2 : ¬ gw = gk := fun e => hnes.2.2.2.2.1 e.symm
              clear hS hA hnes hr6 ho6
              clear hU3
              go_region_held3 (fun w' => w'.cell? ⟨y, 0, none⟩ = some (.slice (some ⟨gl, 0, none⟩) d.l.length cl) ∧ w'.cell? ⟨y, 1, none⟩ = some (.slice (some ⟨gk, 0, none⟩) d.l.length ck) ∧ w'.cell? ⟨y, 2, none⟩ = some (.slice (some ⟨gw, 0, none⟩) d.l.length cw) ∧ w'.cell? ⟨gl, k, none⟩ = some (.slice na nn nc)) (first | exact HG0.out | exact HG1.out | exact HG2.out) (first | fail)
              all_goals
                go_wp2
                exact ⟨⟨k + 1, kk + 1, hlt, by first | rfl | go_num, rfl, by rw [HK1.out, ← HKK.out], HS1.out, HOO.out⟩, by simp [intOf]; omega⟩
        · have hcr : crF d.ws keep k s = { now := s.now, kept := s.now, waits := false } := by unfold crF; rw [if_pos hsw, ← hkk]; exact if_neg hdrop
          rw [hcr] at hU
          obtain ⟨cl, ck, cw, na, nn, nc, ka, kn, kc, hcs, hA⟩ := hr.at_ hg2
          rw [hlen] at hA hcs
          have hnes := hr.nes
          have hS := hg2
          have hkkI : ¬ (keep.length : Int) ≤ (kk : Int) := by omega
          have hkL : kk < keep.length := by omega
          have hkI2 : (kk : Int) < (keep.length : Int) := by omega
          have hz : (keep.getD kk 0 == 0) = false := by rw [beq_eq_false_iff_ne]; exact fun e => hdrop (.inr e)
          have HCR := Lib.hid hcr
          clear hdrop
          obtain ⟨kb, ko, rfl, hkb, hkc⟩ := (HV.out.onlyNe ho HNE.out).ints (k := kk) hkL
          have ck1 := hkc kk hkL
          generalize keep.getD kk 0 = q0 at ck1 hz
          have HK1 := Lib.hid hk1
          have HKK := Lib.hid hkk
          have hU2 := Lib.hid (show (upN (crF d.ws keep) d.l k).set k s.settled = upN (crF d.ws keep) d.l (k + 1) from hU)
          clear hkc hg hU hg2 hcr hwa hk1 hkk hso hcs
          have xw : wr.cell? ⟨gw, k, none⟩ = some (.bool true) := by rw [← hsw]; exact hA.w0
          have HS1 := Lib.hid (show RDev ((wr.setCell ⟨gk, k, none⟩ (.slice na nn nc)).setCell ⟨gw, k, none⟩ (.bool false)).drew y gl gk gw (d.withL (upN (crF d.ws keep) d.l (k + 1))) from by rw [← hU2.out]; exact (hr.settle1 hS hA.on).only (bs := []) ⟨rfl, rfl, rfl, Nat.le_refl _, fun _ _ _ => rfl⟩ (by intro q hq; cases hq))
          have HOO := Lib.hid (show Only [gl, gk, gw] w ((wr.setCell ⟨gk, k, none⟩ (.slice na nn nc)).setCell ⟨gw, k, none⟩ (.bool false)).drew from (ho.trans ((Only.setCell _ _ (by simp) _).trans (Only.setCell _ _ (by simp) _))).drew)
          have y0 : wr.drew.cell? ⟨y, 0, none⟩ = some (.slice (some ⟨gl, 0, none⟩) d.l.length cl) := hA.y0
          have y1 : wr.drew.cell? ⟨y, 1, none⟩ = some (.slice (some ⟨gk, 0, none⟩) d.l.length ck) := hA.y1
          have y2 : wr.drew.cell? ⟨y, 2, none⟩ = some (.slice (some ⟨gw, 0, none⟩) d.l.length cw) := hA.y2
          have l0 : wr.drew.cell? ⟨gl, k, none⟩ = some (.slice na nn nc) := hA.l0
          have k0 : wr.drew.cell? ⟨gk, k, none⟩ = some (.slice ka kn kc) := hA.k0
          have fk : wr.drew.frozen? ⟨gk, k, none⟩ = false := hA.fk
          have x0 : wr.cell? ⟨y, 0, none⟩ = some (.slice (some ⟨gl, 0, none⟩) d.l.length cl) := hA.y0
          have x2 : wr.cell? ⟨y, 2, none⟩ = some (.slice (some ⟨gw, 0, none⟩) d.l.length cw) := hA.y2
          have z1 : wr.cell? ⟨gw, k, none⟩ = some (.bool (s).waits) := hA.w0
          have z2 : wr.frozen? ⟨gw, k, none⟩ = false := hA.fw
          have HG0 := Lib.hid (show wr.drew.cell? ⟨y, 0, none⟩ = some (.slice (some ⟨gl, 0, none⟩) d.l.length cl) ∧ wr.drew.cell? ⟨y, 1, none⟩ = some (.slice (some ⟨gk, 0, none⟩) d.l.length ck) ∧ wr.drew.cell? ⟨y, 2, none⟩ = some (.slice (some ⟨gw, 0, none⟩) d.l.length cw) ∧ wr.drew.cell? ⟨gl, k, none⟩ = some (.slice na nn nc) from ⟨y0, y1, y2, l0⟩)
          have HG1 := Lib.hid (show (wr.drew.setCell ⟨gk, k, none⟩ (.slice na nn nc)).cell? ⟨y, 0, none⟩ = some (.slice (some ⟨gl, 0, none⟩) d.l.length cl) ∧ (wr.drew.setCell ⟨gk, k, none⟩ (.slice na nn nc)).cell? ⟨y, 1, none⟩ = some (.slice (some ⟨gk, 0, none⟩) d.l.length ck) ∧ (wr.drew.setCell ⟨gk, k, none⟩ (.slice na nn nc)).cell? ⟨y, 2, none⟩ = some (.slice (some ⟨gw, 0, none⟩) d.l.length cw) ∧ (wr.drew.setCell ⟨gk, k, none⟩ (.slice na nn nc)).cell? ⟨gl, k, none⟩ = some (.slice na nn nc) from ⟨far_ y0 hnes.2.1.symm, far_ y1 hnes.2.1.symm, far_ y2 hnes.2.1.symm, far_ l0 hnes.2.2.2.2.2.symm⟩)
          have HG2 := Lib.hid (show ((wr.drew.setCell ⟨gk, k, none⟩ (.slice na nn nc)).setCell ⟨gw, k, none⟩ (.bool false)).cell? ⟨y, 0, none⟩ = some (.slice (some ⟨gl, 0, none⟩) d.l.length cl) ∧ ((wr.drew.setCell ⟨gk, k, none⟩ (.slice na nn nc)).setCell ⟨gw, k, none⟩ (.bool false)).cell? ⟨y, 1, none⟩ = some (.slice (some ⟨gk, 0, none⟩) d.l.length ck) ∧ ((wr.drew.setCell ⟨gk, k, none⟩ (.slice na nn nc)).setCell ⟨gw, k, none⟩ (.bool false)).cell? ⟨y, 2, none⟩ = some (.slice (some ⟨gw, 0, none⟩) d.l.length cw) ∧ ((wr.drew.setCell ⟨gk, k, none⟩ (.slice na nn nc)).setCell ⟨gw, k, none⟩ (.bool false)).cell? ⟨gl, k, none⟩ = some (.slice na nn nc) from ⟨far_ HG1.out.1 hnes.2.2.1.symm, far_ HG1.out.2.1 hnes.2.2.1.symm, far_ HG1.out.2.2.1 hnes.2.2.1.symm, far_ HG1.out.2.2.2 hnes.2.2.2.1.symm⟩)
          have p1 : ¬ gk = gw := hnes.2.2.2.2.1
          have p2 : ¬ gw = gk := fun e => hnes.2.2.2.2.1 e.symm
          clear hS hA hnes hr ho
          go_wp2
          go_region_held3 (fun w' => w'.cell? ⟨y, 0, none⟩ = some (.slice (some ⟨gl, 0, none⟩) d.l.length cl) ∧ w'.cell? ⟨y, 1, none⟩ = some (.slice (some ⟨gk, 0, none⟩) d.l.length ck) ∧ w'.cell? ⟨y, 2, none⟩ = some (.slice (some ⟨gw, 0, none⟩) d.l.length cw) ∧ w'.cell? ⟨gl, k, none⟩ = some (.slice na nn nc)) (first | exact HG0.out | exact HG1.out | exact HG2.out) (first | fail)
          all_goals
            go_wp2
            exact ⟨⟨k + 1, kk + 1, hlt, by first | rfl | go_num, rfl, by rw [HK1.out, ← HKK.out], HS1.out, HOO.out⟩, by simp [intOf]; omega⟩
      · rw [Bool.not_eq_true] at hsw
        have hwa2 : d.ws.getD k false = false := hwa.trans hsw
        have hk1 := wlN_succ_f hwa2
        have hcr : crF d.ws keep k s = s.settled := by
          unfold crF
          rw [if_neg (by rw [hsw]; decide)]
          obtain ⟨a, b, c⟩ := s
          have e := hso.2.2.2.2 hsw
          simp only at e hsw
          subst e hsw; rfl
        rw [hcr] at hU
        obtain ⟨cl, ck, cw, na, nn, nc, ka, kn, kc, hcs, hA⟩ := hr.at_ hg2
        rw [hlen] at hA hcs
        have hnes := hr.nes
        have hS := hg2
        have HK1 := Lib.hid hk1
        have HKK := Lib.hid hkk
        have hU2 := Lib.hid hU
        clear hg hU hg2 hcr hwa hwa2 hk1 hkk hso hcs
        have xw : wr.cell? ⟨gw, k, none⟩ = some (.bool false) := by rw [← hsw]; exact hA.w0
        have HS1 := Lib.hid (show RDev ((wr.setCell ⟨gk, k, none⟩ (.slice na nn nc)).setCell ⟨gw, k, none⟩ (.bool false)).drew y gl gk gw (d.withL (upN (crF d.ws keep) d.l (k + 1))) from by rw [← hU2.out]; exact (hr.settle1 hS hA.on).only (bs := []) ⟨rfl, rfl, rfl, Nat.le_refl _, fun _ _ _ => rfl⟩ (by intro q hq; cases hq))
        have HOO := Lib.hid (show Only [gl, gk, gw] w ((wr.setCell ⟨gk, k, none⟩ (.slice na nn nc)).setCell ⟨gw, k, none⟩ (.bool false)).drew from (ho.trans ((Only.setCell _ _ (by simp) _).trans (Only.setCell _ _ (by simp) _))).drew)
        have y0 : wr.drew.cell? ⟨y, 0, none⟩ = some (.slice (some ⟨gl, 0, none⟩) d.l.length cl) := hA.y0
        have y1 : wr.drew.cell? ⟨y, 1, none⟩ = some (.slice (some ⟨gk, 0, none⟩) d.l.length ck) := hA.y1
        have y2 : wr.drew.cell? ⟨y, 2, none⟩ = some (.slice (some ⟨gw, 0, none⟩) d.l.length cw) := hA.y2
        have l0 : wr.drew.cell? ⟨gl, k, none⟩ = some (.slice na nn nc) := hA.l0
        have k0 : wr.drew.cell? ⟨gk, k, none⟩ = some (.slice ka kn kc) := hA.k0
        have fk : wr.drew.frozen? ⟨gk, k, none⟩ = false := hA.fk
        have x0 : wr.cell? ⟨y, 0, none⟩ = some (.slice (some ⟨gl, 0, none⟩) d.l.length cl) := hA.y0
        have x2 : wr.cell? ⟨y, 2, none⟩ = some (.slice (some ⟨gw, 0, none⟩) d.l.length cw) := hA.y2
        have z1 : wr.cell? ⟨gw, k, none⟩ = some (.bool (s).waits) := hA.w0
        have z2 : wr.frozen? ⟨gw, k, none⟩ = false := hA.fw
        have HG0 := Lib.hid (show wr.drew.cell? ⟨y, 0, none⟩ = some (.slice (some ⟨gl, 0, none⟩) d.l.length cl) ∧ wr.drew.cell? ⟨y, 1, none⟩ = some (.slice (some ⟨gk, 0, none⟩) d.l.length ck) ∧ wr.drew.cell? ⟨y, 2, none⟩ = some (.slice (some ⟨gw, 0, none⟩) d.l.length cw) ∧ wr.drew.cell? ⟨gl, k, none⟩ = some (.slice na nn nc) from ⟨y0, y1, y2, l0⟩)
        have HG1 := Lib.hid (show (wr.drew.setCell ⟨gk, k, none⟩ (.slice na nn nc)).cell? ⟨y, 0, none⟩ = some (.slice (some ⟨gl, 0, none⟩) d.l.length cl) ∧ (wr.drew.setCell ⟨gk, k, none⟩ (.slice na nn nc)).cell? ⟨y, 1, none⟩ = some (.slice (some ⟨gk, 0, none⟩) d.l.length ck) ∧ (wr.drew.setCell ⟨gk, k, none⟩ (.slice na nn nc)).cell? ⟨y, 2, none⟩ = some (.slice (some ⟨gw, 0, none⟩) d.l.length cw) ∧ (wr.drew.setCell ⟨gk, k, none⟩ (.slice na nn nc)).cell? ⟨gl, k, none⟩ = some (.slice na nn nc) from ⟨far_ y0 hnes.2.1.symm, far_ y1 hnes.2.1.symm, far_ y2 hnes.2.1.symm, far_ l0 hnes.2.2.2.2.2.symm⟩)
        have HG2 := Lib.hid (show ((wr.drew.setCell ⟨gk, k, none⟩ (.slice na nn nc)).setCell ⟨gw, k, none⟩ (.bool false)).cell? ⟨y, 0, none⟩ = some (.slice (some ⟨gl, 0, none⟩) d.l.length cl) ∧ ((wr.drew.setCell ⟨gk, k, none⟩ (.slice na nn nc)).setCell ⟨gw, k, none⟩ (.bool false)).cell? ⟨y, 1, none⟩ = some (.slice (some ⟨gk, 0, none⟩) d.l.length ck) ∧ ((wr.drew.setCell ⟨gk, k, none⟩ (.slice na nn nc)).setCell ⟨gw, k, none⟩ (.bool false)).cell? ⟨y, 2, none⟩ = some (.slice (some ⟨gw, 0, none⟩) d.l.length cw) ∧ ((wr.drew.setCell ⟨gk, k, none⟩ (.slice na nn nc)).setCell ⟨gw, k, none⟩ (.bool false)).cell? ⟨gl, k, none⟩ = some (.slice na nn nc) from ⟨far_ HG1.out.1 hnes.2.2.1.symm, far_ HG1.out.2.1 hnes.2.2.1.symm, far_ HG1.out.2.2.1 hnes.2.2.1.symm, far_ HG1.out.2.2.2 hnes.2.2.2.1.symm⟩)
        have p1 : ¬ gk = gw := hnes.2.2.2.2.1
        have p2 : ¬ gw = gk := fun e => hnes.2.2.2.2.1 e.symm
        clear hS hA hnes hr ho
        go_wp2
        go_region_held3 (fun w' => w'.cell? ⟨y, 0, none⟩ = some (.slice (some ⟨gl, 0, none⟩) d.l.length cl) ∧ w'.cell? ⟨y, 1, none⟩ = some (.slice (some ⟨gk, 0, none⟩) d.l.length ck) ∧ w'.cell? ⟨y, 2, none⟩ = some (.slice (some ⟨gw, 0, none⟩) d.l.length cw) ∧ w'.cell? ⟨gl, k, none⟩ = some (.slice na nn nc)) (first | exact HG0.out | exact HG1.out | exact HG2.out) (first | fail)
        all_goals
          go_wp2
          exact ⟨⟨k + 1, kk, hlt, by first | rfl | go_num, rfl, by rw [HK1.out]; exact HKK.out, HS1.out, HOO.out⟩, by simp [intOf]; omega⟩
    · obtain rfl : k = d.l.length := by omega
      have hkI : ¬ (d.l.length : Int) < (d.l.length : Int) := by omega
      rw [upN_all _ _ (Nat.le_refl _)] at hr
      obtain ⟨cl, ck, cw, _, _, _, kb⟩ := hr.blk
      have c3 : wr.cell? ⟨y, 3, none⟩ = some (.int .i64 (d.withL (d.l.mapIdx (crF d.ws keep))).rB) := kb.cell 3
      have c4 : wr.cell? ⟨y, 4, none⟩ = some (.bool d.dead) := kb.cell 4
      have f3 := kb.frozen 3
      have f4 := kb.frozen 4
      have d3 : (wr.setCell ⟨y, 4, none⟩ (.bool false)).cell? ⟨y, 3, none⟩ = some (.int .i64 (d.withL (d.l.mapIdx (crF d.ws keep))).rB) := (World.cell?_setCell_other _ _ _ _ (by simp)).trans c3
      have hof : Only [y] wr ((wr.setCell ⟨y, 4, none⟩ (.bool false)).setCell ⟨y, 3, none⟩ (.int .i64 (-1))) := (Only.setCell _ _ (by simp) _).trans (Only.setCell _ _ (by simp) _)
      have HF := Lib.hid (show RDev ((wr.setCell ⟨y, 4, none⟩ (.bool false)).setCell ⟨y, 3, none⟩ (.int .i64 (-1))) y gl gk gw (d.crash keep) from
        hr.fields (d.crash keep) rfl (fun e => by cases e) (fun cl ck cw k => (k.set_ 4 (.bool false)).set_ 3 (.int .i64 (-1))) hof)
      have HO2 := Lib.hid ((ho.mono (cs := [y, gl, gk, gw]) (fun q hq => List.mem_cons_of_mem _ hq)).trans (hof.mono (by simp)))
      clear hr ho kb hof
      go_wp2
      go_end0
      exact ⟨rfl, HF.out, HO2.out⟩

end Go.Proofs.Yteaimjfpmacgeaa
