
/- A device: Write. -/
import Derived.Test.YtgfkejecigefbaaDoorDvC
import Derived.Deep.RegionHeld3
import Derived.Deep.Cut
namespace Go.Proofs.YtgfkejecigefbaaDoor
open Go.RowKit
set_option linter.unusedVariables false

def DSt.wrE (d : DSt) (i : Int) (bs : List Int) : Int := if d.has i = true then (if bs.length = 64 then d.chgE else 1) else 1
def Sec.wrote (s : Sec) (bs : List Int) : Sec := { now := bs, kept := s.kept, waits := true }
def DSt.wrote (d : DSt) (i : Int) (bs : List Int) : DSt :=
  if d.has i = true ∧ bs.length = 64 then (if d.stops = true then d.chg else { d.chg with l := d.l.modify i.toNat fun s => s.wrote bs }) else d
theorem modify_eq_set {α : Type} {l : List α} {k : Nat} {s : α} (f : α → α) (h : l[k]? = some s) : l.modify k f = l.set k (f s) := by
  apply List.ext_getElem?; intro i
  rw [List.getElem?_modify]
  by_cases e : k = i
  · subst e
    rw [List.getElem?_set_self (List.getElem?_eq_some_iff.1 h).1, h]; simp
  · rw [List.getElem?_set_ne e]; simp [e]
theorem set_ok {l : List Sec} {k : Nat} {s : Sec} (h : ∀ s ∈ l, s.ok) (hs : s.ok) : ∀ t ∈ l.set k s, t.ok := by
  intro t ht
  rcases List.mem_or_eq_of_mem_set ht with h1 | rfl
  · exact h t h1
  · exact hs

theorem run_toArray (bb bo vc : Nat) (w : World) : (Instr.arrayAt 85 (.slice (some ⟨bb, bo, none⟩) 64 vc)).run Tryd.prog w = .ok (.pointer (some ⟨bb, bo, none⟩)) w := by kernel_rfl

set_option maxRecDepth 100000 in
set_option maxHeartbeats 2000000 in
theorem dwrite_any (w : World) (g b : Nat) (d : DSt) (i : Int) (v : Value) (bs : List Int) (h : Dev w g b d) (hB : IsB bs) (hv : Sl w v (bs.map (Value.int .u8))) (hne : ∀ o n c, 0 < n → v ≠ .slice (some ⟨b, o, none⟩) n c) :
    Calls Tryd.prog 62 #[.pointer (some ⟨g, 0, none⟩), .int .i64 i, v] w fun e w' => e = .returned (.int .i64 (d.wrE i bs)) ∧ Dev w' g b (d.wrote i bs) ∧ Only [g, b] w w' := by
  have HA := Lib.hid (dat_any w g b d i h)
  have HD := Lib.hid h
  have HV := Lib.hid hv
  have HNE := Lib.hid hne
  obtain ⟨va, vc, rfl, hvc, hvm⟩ := hv.shape
  rw [List.length_map] at *
  have HC := Lib.hid (dchange_any w g b d h)
  by_cases hx : d.has i = true
  · rw [show d.atE i = 0 from if_pos hx] at HA
    by_cases hl : bs.length = 64
    · have hln : ((bs.length : Int) != 64) = false := by rw [hl]; rfl
      by_cases hs : d.stops = true
      · rw [show d.chgE = 70 from if_pos hs] at HC
        have HE := Lib.hid (show d.wrE i bs = 70 ∧ d.wrote i bs = d.chg from ⟨by unfold DSt.wrE; rw [if_pos hx, if_pos hl]; exact if_pos hs, by unfold DSt.wrote; rw [if_pos ⟨hx, hl⟩, if_pos hs]⟩)
        clear h hv hne hx hl hs
        rw [HE.out.1, HE.out.2]
        go_enter Tryd.func62, Tryd.ntmps62
        go_wp2_with fail
        refine HA.out.mono ?_
        rintro e w1 ⟨rfl, rfl⟩
        go_wp2_with fail
        refine HC.out.mono ?_
        rintro e w1 ⟨rfl, hD, hO⟩
        go_wp2
        go_ret
        exact ⟨rfl, hD, hO.mono (by simp)⟩
      · rw [show d.chgE = 0 from if_neg hs] at HC
        have HE := Lib.hid (show d.wrE i bs = 0 ∧ d.wrote i bs = { d.chg with l := d.l.modify i.toNat fun s => s.wrote bs } from ⟨by unfold DSt.wrE; rw [if_pos hx, if_pos hl]; exact if_neg hs, by unfold DSt.wrote; rw [if_pos ⟨hx, hl⟩, if_neg hs]⟩)
        have hxx : 0 ≤ i ∧ i < d.l.length := by unfold DSt.has at hx; exact of_decide_eq_true hx
        obtain ⟨j, rfl⟩ := Int.eq_ofNat_of_zero_le hxx.1
        have hj : j < d.l.length := by omega
        have hg : d.l[j]? = some d.l[j] := List.getElem?_eq_getElem hj
        obtain ⟨bb, bo, rfl, hbb, hbc⟩ := hv.ints (k := 0) (by omega)
        have hbne : bb ≠ b := fun e => hne bo bs.length vc (by omega) (by rw [e])
        have HRG := Lib.hid (show w.rangeAt bb bo (bs.map (Value.int .u8)) from fun m u hu => by
          have hm : m < bs.length := by have := (List.getElem?_eq_some_iff.1 hu).1; simpa using this
          rw [hbc m hm, ← hu, List.getElem?_map, List.getElem?_eq_getElem hm, List.getD_eq_getElem?_getD, List.getElem?_eq_getElem hm]; rfl)
        have HL := Lib.hid hl
        have HNB := Lib.hid hbne
        have HLL := Lib.hid (chg_l d)
        have HOK := Lib.hid h.ok
        have HPS := Lib.hid h.pos
        generalize d.l[j] = s at *
        have HG := Lib.hid hg
        rw [Int.toNat_natCast] at HE
        rw [HE.out.1, HE.out.2]
        rw [hl] at hvc ⊢
        clear hv hne hbc hg h hl hbne hx hs hxx
        go_enter Tryd.func62, Tryd.ntmps62
        go_wp2_with fail
        refine HA.out.mono ?_
        rintro e w1 ⟨rfl, rfl⟩
        go_wp2_with fail
        refine HC.out.mono ?_
        rintro e w1 ⟨rfl, hD, hO⟩
        have hD := hD.only ((Only.refl [] w1).drew) (by simp) (by simp)
        have hO := hO.drew
        have hbg : bb ≠ g := by
          rintro rfl
          obtain ⟨cap, _, _, k⟩ := HD.out.blk
          have h1 := HRG.out 0 _ (by rw [List.getElem?_map, List.getElem?_eq_getElem (show 0 < bs.length by rw [HL.out]; omega)]; rfl)
          have h2 := k.cell (bo + 0)
          rw [h1] at h2
          match bo, h2 with
          | 0, h2 => simp at h2
          | 1, h2 => simp at h2
          | 2, h2 => simp at h2
          | 3, h2 => simp at h2
          | 4, h2 => simp at h2
          | n + 5, h2 => simp at h2
        obtain ⟨cap, q1, q2, k⟩ := hD.blk
        have hR := hD.row
        rw [HLL.out] at q1 k hR
        have hS := hR.at_ j s HG.out
        have hSL := hR.len s (List.mem_of_getElem? HG.out)
        have hrg : w1.drew.rangeAt bb bo (bs.map (Value.int .u8)) := fun m u hu => (hO.cell (p := ⟨bb, bo + m, none⟩) hbb (by simp; exact hbg)).trans (HRG.out m u hu)
        have hth : w1.drew.there b (j * 129) 64 := by have := hR.there hS.now; rw [List.length_map, hSL.1] at this; exact this
        have hR1 := hR.setNow HG.out (bs := bs) HL.out
        have hg1 : (d.l.set j { s with now := bs })[j]? = some { s with now := bs } := List.getElem?_set_self hj
        have hR2 := hR1.setWaits hg1 true
        rw [List.set_set] at hR2
        have hO1 := Only.setCells [g, b] w1.drew (b := b) (by simp) (j * 129) (bs.map (Value.int .u8))
        have hO2 := hO1.trans (Only.setCell [g, b] _ (p := ⟨b, j * 129 + 128, none⟩) (by simp) (.bool true))
        have hgb : g ≠ b := hD.ne
        have k1 := (Only.setCells [b] w1.drew (b := b) (by simp) (j * 129) (bs.map (Value.int .u8))).blk k (by simp; exact hgb)
        have k2 : Blk ((w1.drew.setCells b (j * 129) (bs.map (Value.int .u8))).setCell ⟨b, j * 129 + 128, none⟩ (.bool true)) g _ _ := k1.far (p := ⟨b, j * 129 + 128, none⟩) hgb (.bool true)
        have HF := Lib.hid (show Dev ((w1.drew.setCells b (j * 129) (bs.map (Value.int .u8))).setCell ⟨b, j * 129 + 128, none⟩ (.bool true)) g b { d.chg with l := d.l.modify j fun s => s.wrote bs } ∧ Only [g, b] w ((w1.drew.setCells b (j * 129) (bs.map (Value.int .u8))).setCell ⟨b, j * 129 + 128, none⟩ (.bool true)) from by
          refine ⟨⟨⟨cap, by rw [List.length_modify]; exact q1, q2, ?_⟩, ?_, by rw [List.length_modify]; exact HPS.out, ?_⟩, (hO.mono (by simp)).trans hO2⟩
          · rw [List.length_modify]; exact k2
          · rw [modify_eq_set _ HG.out]; exact hR2
          · rw [modify_eq_set _ HG.out]
            have so := HOK.out s (List.mem_of_getElem? HG.out)
            exact set_ok HOK.out ⟨HL.out, so.2.1, hB, so.2.2.2.1, fun e => by cases e⟩)
        have c3 : (w1.drew.setCells b (j * 129) (bs.map (Value.int .u8))).cell? ⟨b, j * 129 + 128, none⟩ = some (.bool s.waits) := (hR1.at_ j _ hg1).waits
        have f3 : (w1.drew.setCells b (j * 129) (bs.map (Value.int .u8))).frozen? ⟨b, j * 129 + 128, none⟩ = false := by obtain ⟨cur, kk⟩ := hR1.typ; exact kk.frozen _
        have HG0 := Lib.hid (show w1.drew.cell? ⟨g, 0, none⟩ = some (.slice (some ⟨b, 0, none⟩) d.l.length cap) ∧ w1.drew.rangeAt bb bo (bs.map (Value.int .u8)) ∧ w1.drew.there b (j * 129) 64 from ⟨k.cell 0, hrg, hth⟩)
        have HG1 := Lib.hid (show (w1.drew.setCells b (j * 129) (bs.map (Value.int .u8))).cell? ⟨g, 0, none⟩ = some (.slice (some ⟨b, 0, none⟩) d.l.length cap) ∧ (w1.drew.setCells b (j * 129) (bs.map (Value.int .u8))).rangeAt bb bo (bs.map (Value.int .u8)) ∧ (w1.drew.setCells b (j * 129) (bs.map (Value.int .u8))).there b (j * 129) 64 from
          ⟨k1.cell 0, World.rangeAt_setCells_apart hrg _ _ _ (.inl HNB.out), World.there_setCells hth _ _ _⟩)
        have HG2 := Lib.hid (show ((w1.drew.setCells b (j * 129) (bs.map (Value.int .u8))).setCell ⟨b, j * 129 + 128, none⟩ (.bool true)).cell? ⟨g, 0, none⟩ = some (.slice (some ⟨b, 0, none⟩) d.l.length cap) ∧ ((w1.drew.setCells b (j * 129) (bs.map (Value.int .u8))).setCell ⟨b, j * 129 + 128, none⟩ (.bool true)).rangeAt bb bo (bs.map (Value.int .u8)) ∧ ((w1.drew.setCells b (j * 129) (bs.map (Value.int .u8))).setCell ⟨b, j * 129 + 128, none⟩ (.bool true)).there b (j * 129) 64 from
          ⟨k2.cell 0, World.rangeAt_setCells_apart (World.rangeAt_setCells_apart hrg _ _ _ (.inl HNB.out)) b (j * 129 + 128) [.bool true] (.inl HNB.out), World.there_setCells (World.there_setCells hth _ _ _) b (j * 129 + 128) [.bool true]⟩)
        have hsz := size64L HL.out
        have hcl : (bs.map (Value.int .u8)).length = 64 := by rw [List.length_map]; exact HL.out
        have hone := oneB bs
        have hjI : (j : Int) < (d.l.length : Int) := by omega
        have hul := Tryd.underlying85
        have hsa := fun w' => run_toArray bb bo vc w'
        clear hD hO k hR hS hSL hrg hth hR1 hg1 hR2 hO1 hO2 k1 k2
        go_wp2
        go_region_held3 (fun w' => w'.cell? ⟨g, 0, none⟩ = some (.slice (some ⟨b, 0, none⟩) d.l.length cap) ∧ w'.rangeAt bb bo (bs.map (Value.int .u8)) ∧ w'.there b (j * 129) 64) (first | exact HG0.out | exact HG1.out | exact HG2.out) (first | fail)
        all_goals
          go_wp2
          go_ret
          exact ⟨rfl, HF.out⟩
    · have hln : ((bs.length : Int) != 64) = true := by rw [bne_iff_ne]; omega
      have HE := Lib.hid (show d.wrE i bs = 1 ∧ d.wrote i bs = d from ⟨by unfold DSt.wrE; rw [if_pos hx, if_neg hl], by unfold DSt.wrote; rw [if_neg (fun q => hl q.2)]⟩)
      clear h hv hne hx hl
      rw [HE.out.1, HE.out.2]
      go_enter Tryd.func62, Tryd.ntmps62
      go_wp2_with fail
      refine HA.out.mono ?_
      rintro e w1 ⟨rfl, rfl⟩
      go_wp2
      go_ret
      exact ⟨rfl, HD.out, Only.refl _ _⟩
  · rw [show d.atE i = 1 from if_neg hx] at HA
    have HE := Lib.hid (show d.wrE i bs = 1 ∧ d.wrote i bs = d from ⟨by unfold DSt.wrE; rw [if_neg hx], by unfold DSt.wrote; rw [if_neg (fun q => hx q.1)]⟩)
    clear h hv hne hx
    rw [HE.out.1, HE.out.2]
    go_enter Tryd.func62, Tryd.ntmps62
    go_wp2_with fail
    refine HA.out.mono ?_
    rintro e w1 ⟨rfl, rfl⟩
    go_wp2
    go_ret
    exact ⟨rfl, HD.out, Only.refl _ _⟩

end Go.Proofs.YtgfkejecigefbaaDoor
