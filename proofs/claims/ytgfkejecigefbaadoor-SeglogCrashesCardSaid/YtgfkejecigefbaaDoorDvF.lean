
/- A device: Read, Image. -/
import Derived.Test.YtgfkejecigefbaaDoorDvB
import Derived.Test.YtgfkejecigefbaaDoorDvE
namespace Go.Proofs.YtgfkejecigefbaaDoor
open Go.RowKit
set_option linter.unusedVariables false

/-- A sector's bytes as a slice. -/
theorem SecAt.sl {w : World} {b i : Nat} {s : Sec} (h : SecAt w b i s) (hb : b < w.heap.size) (hl : s.now.length = 64) : Sl w (.slice (some ⟨b, i * 129, none⟩) 64 64) (s.now.map (Value.int .u8)) :=
  ⟨some ⟨b, i * 129, none⟩, 64, by rw [List.length_map, hl], by rw [List.length_map, hl]; exact Nat.le_refl _, by unfold maxLen; omega, fun _ => ⟨b, i * 129, rfl, hb, fun j u hu => h.now j u hu⟩⟩

def DSt.rdE (d : DSt) (i : Int) : Int := if d.has i = true then (if d.dead = true then 70 else 0) else 1
def DSt.rd (d : DSt) (i : Int) : List Int := if d.rdE i = 0 then (d.l.map Sec.now).getD i.toNat [] else []


set_option maxRecDepth 100000 in
set_option maxHeartbeats 1000000 in
theorem dimage_any (w : World) (g b : Nat) (d : DSt) (h : Dev w g b d) :
    Calls Tryd.prog 27 #[.pointer (some ⟨g, 0, none⟩)] w fun e w' => ∃ x, e = .returned x ∧ OBs w' w.heap.size x (d.l.map Sec.now) ∧ Below w.heap.size w w' := by
  have HN := Lib.hid (dnone_any w g b d h)
  have HD := Lib.hid h
  obtain ⟨cap, h1, h2, k⟩ := h.blk
  have c0 : w.cell? ⟨g, 0, none⟩ = some (.slice (some ⟨b, 0, none⟩) d.l.length cap) := k.cell 0
  have hp := h.pos
  clear h k
  go_enter Tryd.func27, Tryd.ntmps27
  go_wp2_with fail
  refine HN.out.mono ?_
  rintro e w1 ⟨rfl, rfl⟩
  go_wp2
  go_loopw [3, 12] (fun l i wr => ∃ (k : Nat) (v : Value), v = l ∧ k ≤ d.l.length ∧ i = .int .i64 k ∧ OBs wr w.heap.size v ((d.l.map Sec.now).take k) ∧ Below w.heap.size w wr) (fun _ i _ => d.l.length - (intOf i).toNat)
  case atStart => exact ⟨0, _, rfl, by omega, rfl, OBs.nil _ _, Below.refl _ _⟩
  case round =>
    clear c0
    obtain ⟨k, v, rfl, hk, rfl, hO, hb⟩ := hrel
    have hDr := HD.out.below hb
    obtain ⟨cap, h1, h2, kk⟩ := hDr.blk
    have c0 : wr.cell? ⟨g, 0, none⟩ = some (.slice (some ⟨b, 0, none⟩) d.l.length cap) := kk.cell 0
    obtain ⟨va, vc, rfl⟩ := hO.val
    have hlk : ((d.l.map Sec.now).take k).length = k := by rw [List.length_take, List.length_map]; omega
    rw [hlk] at hO ⊢
    by_cases hlt : k < d.l.length
    · have hkI : (k : Int) < (d.l.length : Int) := by omega
      have hg : d.l[k]? = some d.l[k] := List.getElem?_eq_getElem hlt
      have hS := hDr.row.at_ k _ hg
      have hL := (hDr.row.len _ (List.mem_of_getElem? hg)).1
      have HC := Lib.hid (sclone_own _ _ wr (by rw [hL]; omega) (hS.sl hDr.row.lt hL))
      have HT := Lib.hid (show (d.l.map Sec.now).take (k + 1) = (d.l.map Sec.now).take k ++ [d.l[k].now] from by rw [List.take_succ_eq_append_getElem (by rw [List.length_map]; exact hlt), List.getElem_map])
      have HLN := Lib.hid (show ((d.l.map Sec.now).take k).length + 1 ≤ 5000000000000 by rw [hlk]; omega)
      generalize d.l[k] = s at *
      clear hDr kk hg hS hL hlk
      go_wp2_with fail
      refine HC.out.mono ?_
      rintro e w2 ⟨x, rfl, hx, hb2⟩
      obtain ⟨xa, xn, xc, rfl⟩ := hx.sl.val
      have hO2 := hO.below hb2
      have hbw := hb.trans (hb2.mono hb.size)
      have hbA : Below w2.heap.size w2 (w2.alloc (.cells #[.slice xa xn xc] 26)) := (Below.refl _ _).alloc (Nat.le_refl _) _
      have hO3 := hO2.below hbA
      have hx3 := (hx.below hbA).base hb.size
      have hc3 := (Blk.new w2 26 #[.slice xa xn xc]).cell 0
      have hbA2 := hbw.trans (hbA.mono hbw.size)
      clear hx hO hO2 hb2 hbA hbw
      go_wp2_with (at_builtin; refine wpList_append_ob rfl _ _ rfl w.heap.size _ _ rfl hO3 w2.heap.size 1 rfl (.slice xa xn xc) hc3 _ hx3 HLN.out hbA2.size ?_)
      intro v5 w5 hO5 hb5 hg5
      have hb6 := hbA2.trans hb5
      rw [← HT.out] at hO5
      clear hb5 hg5 hO3 hx3 hc3 hbA2 hb
      go_wp2
      go_roundw
      case rel => exact ⟨k + 1, v5, rfl, by omega, by go_num, hO5, hb6⟩
      case measure => simp [intOf]; omega
    · obtain rfl : k = d.l.length := by omega
      have hkI : ¬ (d.l.length : Int) < (d.l.length : Int) := by omega
      have HO := Lib.hid (show OBs wr w.heap.size (.slice va d.l.length vc) (d.l.map Sec.now) from by rw [List.take_of_length_le (by rw [List.length_map]; exact Nat.le_refl _)] at hO; exact hO)
      clear hO hDr kk hlk
      go_wp2
      go_ret
      exact ⟨_, rfl, HO.out, hb⟩

end Go.Proofs.YtgfkejecigefbaaDoor
