
/- The codec's reader: the program's walks. -/
import Derived.Test.YtjhannlioddkkaaGreatDoorReader
import Derived.Test.YtjhannlioddkkaaGreatDoorBytes
import Derived.Test.YtjhannlioddkkaaGreatDoorBlk
import Derived.Deep.QuietTactic
import Derived.BigQuiet
namespace Go.Proofs.YtjhannlioddkkaaGreatDoor
open Go.RowKit
set_option linter.unusedVariables false


set_option maxHeartbeats 400000 in
/-- An error comes. -/
theorem rok_fail (g : Nat) (v1 : Value) (er : Int) (w : World) (he : ¬ er = 0) (h : Blk w g 68 #[.bool true, v1, .int .i64 0]) :
    Calls Tryz.prog 63 #[.pointer (some ⟨g, 0, none⟩), .bool false, .int .i64 er] w fun e w' => e = .returned (.bool false) ∧ Blk w' g 68 #[.bool true, .slice none 0 0, .int .i64 er] ∧ w.grownBy w' (some g) := by
  have q2 : w.cell? ⟨g, 2, none⟩ = some (.int .i64 0) := h.cell 2
  have q1 : w.cell? ⟨g, 1, none⟩ = some v1 := h.cell 1
  have f2 := h.frozen 2
  have f1 := h.frozen 1
  have HN := Lib.hid (rnone_any g _ _ w h)
  have hk := (h.set_ 2 (.int .i64 er)).set_ 1 (.slice none 0 0)
  have hg : w.grownBy ((w.setCell ⟨g, 2, none⟩ (.int .i64 er)).setCell ⟨g, 1, none⟩ (.slice none 0 0)) (some g) := only_setCell (p := ⟨g, 1, none⟩) (only_setCell (p := ⟨g, 2, none⟩) (World.grownBy.refl w (some g)) (Or.inl rfl) (.int .i64 er)) (Or.inl rfl) (.slice none 0 0)
  have HK := Lib.hid hk
  have HG := Lib.hid hg
  clear h hk hg
  go_enter Tryz.func63, Tryz.ntmps63
  go_wp2_with fail
  refine HN.out.mono ?_
  rintro e w1 ⟨rfl, rfl⟩
  go_wp2
  go_ret
  exact ⟨ret_bool (beq_false_of_ne he), HK.out, HG.out⟩

theorem Sl.keepG {w w' : World} {v : Value} {bs : List Int} (hs : Sl w v (bs.map (Value.int .u8))) {g : Nat} {t : TypeId} {cs : Array Value} (hk : Blk w g t cs) (hcs : ∀ (j : Nat) (n : Int), cs[j]? ≠ some (.int .u8 n)) (hg : w.grownBy w' (some g)) : Sl w' v (bs.map (Value.int .u8)) := by
  obtain ⟨a, cap, rfl, h1, h2, h3⟩ := hs
  refine ⟨a, cap, rfl, h1, h2, fun hp => ?_⟩
  obtain ⟨b, off, rfl, hlt, hc⟩ := h3 hp
  have hne : some b ≠ some g := by
    intro he
    obtain rfl : b = g := by simpa using he
    have hl : 0 < bs.length := by simpa using hp
    have h0 := hc 0 (.int .u8 bs[0]) (by rw [List.getElem?_map, List.getElem?_eq_getElem hl]; rfl)
    rw [hk.cell] at h0
    exact hcs _ _ h0
  refine ⟨b, off, rfl, Nat.lt_of_lt_of_le hlt hg.size, fun j u hu => ?_⟩
  rw [hg.cell_far ⟨b, off + j, none⟩ hlt hne]
  exact hc j u hu

theorem rd_noB (v : Value) (hv : ∃ a n c, v = .slice a n c) (e : Int) : ∀ (j : Nat) (n : Int), (#[Value.bool true, v, .int .i64 e] : Array Value)[j]? ≠ some (.int .u8 n) := by
  obtain ⟨a, m, c, rfl⟩ := hv
  intro j n h
  match j, h with
  | 0, h => simp at h
  | 1, h => simp at h
  | 2, h => simp at h
  | j + 3, h => simp at h

end Go.Proofs.YtjhannlioddkkaaGreatDoor
