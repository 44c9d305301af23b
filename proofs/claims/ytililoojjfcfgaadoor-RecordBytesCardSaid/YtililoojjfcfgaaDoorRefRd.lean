/- The reference's reader: Fail, Take. -/
import Derived.Test.YtililoojjfcfgaaDoorReaderU
namespace Go.Proofs.YtililoojjfcfgaaDoor
open Go.RowKit
set_option linter.unusedVariables false

/-- Block g is a reader of the reference's: what is left, its first error. -/
def RRd (w : World) (g : Nat) (bs : List Int) (e : Int) : Prop := ∃ v, Blk w g 129 #[v, .int .i64 e] ∧ Sl w v (bs.map (Value.int .u8))
def RRdAt (w w' : World) (g : Nat) (bs : List Int) (e : Int) : Prop := RRd w' g bs e ∧ w.grownBy w' (some g)

theorem RRd.val {w : World} {g : Nat} {bs : List Int} {e : Int} (h : RRd w g bs e) : ∃ a c, Blk w g 129 #[.slice a bs.length c, .int .i64 e] ∧ Sl w (.slice a bs.length c) (bs.map (Value.int .u8)) := by
  obtain ⟨v, h1, h2⟩ := h
  obtain ⟨a, c, rfl, _, _⟩ := h2.shape
  rw [List.length_map] at *
  exact ⟨a, c, h1, h2⟩
theorem rrd_noB (v : Value) (hv : ∃ a n c, v = .slice a n c) (e : Int) : ∀ (j : Nat) (n : Int), (#[v, .int .i64 e] : Array Value)[j]? ≠ some (.int .u8 n) := by
  obtain ⟨a, m, c, rfl⟩ := hv
  intro j n h
  match j, h with
  | 0, h => simp at h
  | 1, h => simp at h
  | j + 2, h => simp at h

set_option maxHeartbeats 400000 in
theorem rfail_skip (g : Nat) (v : Value) (e0 er : Int) (w : World) (he : ¬ e0 = 0) (h : Blk w g 129 #[v, .int .i64 e0]) :
    Calls Tryd.prog 126 #[.pointer (some ⟨g, 0, none⟩), .int .i64 er] w fun e w' => e = .returned (.tuple #[]) ∧ w = w' := by
  have q1 : w.cell? ⟨g, 1, none⟩ = some (.int .i64 e0) := h.cell 1
  clear h
  go_enter Tryd.func126, Tryd.ntmps126
  go_wp2
  go_end0
  exact ⟨rfl, rfl⟩

set_option maxHeartbeats 400000 in
theorem rfail_set (g : Nat) (v : Value) (er : Int) (w : World) (h : Blk w g 129 #[v, .int .i64 0]) :
    Calls Tryd.prog 126 #[.pointer (some ⟨g, 0, none⟩), .int .i64 er] w fun e w' => e = .returned (.tuple #[]) ∧ RRdAt w w' g [] er := by
  have q1 : w.cell? ⟨g, 1, none⟩ = some (.int .i64 0) := h.cell 1
  have q0 : w.cell? ⟨g, 0, none⟩ = some v := h.cell 0
  have f1 := h.frozen 1
  have f0 := h.frozen 0
  have hk := (h.set_ 1 (.int .i64 er)).set_ 0 (.slice none 0 0)
  have hg : w.grownBy ((w.setCell ⟨g, 1, none⟩ (.int .i64 er)).setCell ⟨g, 0, none⟩ (.slice none 0 0)) (some g) :=
    only_setCell (p := ⟨g, 0, none⟩) (only_setCell (p := ⟨g, 1, none⟩) (World.grownBy.refl w (some g)) (Or.inl rfl) (.int .i64 er)) (Or.inl rfl) (.slice none 0 0)
  have HK := Lib.hid hk
  have HG := Lib.hid hg
  clear h hk hg
  go_enter Tryd.func126, Tryd.ntmps126
  go_wp2
  go_end0
  exact ⟨rfl, ⟨_, HK.out, Sl.nil _⟩, HG.out⟩

set_option maxHeartbeats 1000000 in
theorem refTake_err (g : Nat) (bs : List Int) (er : Int) (n : Int) (w : World) (he : ¬ er = 0) (h : RRd w g bs er) :
    Calls Tryd.prog 98 #[.pointer (some ⟨g, 0, none⟩), .int .i64 n] w fun e w' => e = .returned (.slice none 0 0) ∧ w = w' := by
  obtain ⟨a, c, hk, hs⟩ := h.val
  have q0 : w.cell? ⟨g, 0, none⟩ = some (.slice a bs.length c) := hk.cell 0
  have q1 : w.cell? ⟨g, 1, none⟩ = some (.int .i64 er) := hk.cell 1
  have HF := Lib.hid (rfail_skip g _ er 3 w he hk)
  clear hk h hs
  by_cases hn : (bs.length : Int) < n
  · go_enter Tryd.func98, Tryd.ntmps98
    go_wp2_with fail
    refine HF.out.mono ?_
    rintro e w1 ⟨rfl, rfl⟩
    go_wp2
    go_ret
    exact ⟨rfl, rfl⟩
  · go_enter Tryd.func98, Tryd.ntmps98
    go_wp2
    go_ret
    exact ⟨rfl, rfl⟩

set_option maxHeartbeats 1000000 in
theorem refTake_short (g : Nat) (bs : List Int) (n : Nat) (w : World) (hn : bs.length < n) (h : RRd w g bs 0) :
    Calls Tryd.prog 98 #[.pointer (some ⟨g, 0, none⟩), .int .i64 n] w fun e w' => e = .returned (.slice none 0 0) ∧ RRdAt w w' g [] 3 := by
  obtain ⟨a, c, hk, hs⟩ := h.val
  have q0 : w.cell? ⟨g, 0, none⟩ = some (.slice a bs.length c) := hk.cell 0
  have HF := Lib.hid (rfail_set g _ 3 w hk)
  have hI : (bs.length : Int) < (n : Int) := by omega
  clear hk h hs hn
  go_enter Tryd.func98, Tryd.ntmps98
  go_wp2_with fail
  refine HF.out.mono ?_
  rintro e w1 ⟨rfl, ⟨v1, hk1, hs1⟩, hg1⟩
  have q1 : w1.cell? ⟨g, 1, none⟩ = some (.int .i64 3) := hk1.cell 1
  have HR := Lib.hid (show RRdAt w w1 g [] 3 from ⟨⟨v1, hk1, hs1⟩, hg1⟩)
  clear hk1 hs1 hg1
  go_wp2
  go_ret
  exact ⟨rfl, HR.out⟩

theorem info8r : (Tryd.prog.info? 5).map (fun i => (i.zero, i.size, i.bytes)) = some (some (.int .u8 0), 1, 1) := by kernel_rfl

set_option maxHeartbeats 1000000 in
theorem refTake_ok (g : Nat) (bs : List Int) (n : Nat) (w : World) (hn : n ≤ bs.length) (hm : n ≤ 140737488351232) (h : RRd w g bs 0) :
    Calls Tryd.prog 98 #[.pointer (some ⟨g, 0, none⟩), .int .i64 n] w fun e w' => ∃ x, e = .returned x ∧ Sl w' x ((bs.take n).map (Value.int .u8)) ∧ RRdAt w w' g (bs.drop n) 0 := by
  obtain ⟨a, c, hk, hs⟩ := h.val
  have hgl := hk.lt
  have q0 : w.cell? ⟨g, 0, none⟩ = some (.slice a bs.length c) := hk.cell 0
  have q1 : w.cell? ⟨g, 1, none⟩ = some (.int .i64 0) := hk.cell 1
  have HK := Lib.hid hk
  have hI : ¬ (bs.length : Int) < (n : Int) := by omega
  have hI2 : (n : Int) ≤ (c : Int) := by have := hs.len; omega
  have hI3 : (0 : Int) ≤ (n : Int) := by omega
  have HNN := Lib.hid hn
  have HMM := Lib.hid (show (bs.take n).length ≤ 140737488351232 by rw [List.length_take]; omega)
  obtain ⟨i0, hi, hz0, hz1, hz2⟩ := info_parts info8r
  have hb0 : Below w.heap.size w (w.alloc (.cells #[] 5)) := (Below.refl _ _).alloc (Nat.le_refl _) _
  have hown0 : (w.alloc (.cells #[] 5)).ownsRow w.heap.size 5 1 (.slice (some ⟨w.heap.size, 0, none⟩) 0 0) 0 [] :=
    World.ownsRow_lit (base := w.heap.size) (e := 5) (size := 1) w #[] 0 (Nat.le_refl _) (by simp [maxLen]) (by simp)
  have hst := (hs.take n (by simpa using hn)).below hb0 (Nat.le_refl _)
  rw [← List.map_take] at hst
  have hq0 : (w.alloc (.cells #[] 5)).cell? ⟨g, 0, none⟩ = some (.slice a bs.length c) := (hb0.cell (p := ⟨g, 0, none⟩) hgl).trans q0
  clear hk hn hm h
  go_enter Tryd.func98, Tryd.ntmps98
  go_wp2_with (at_builtin; go_loud (refine wpList_append_sl rfl _ _ 22 rfl w.heap.size 5 i0 (.int .u8 0) 1 Tryd.underlying22 hi hz0 hz1 hz2 rfl _ 0 [] rfl hown0 (.slice a n c) ((bs.take n).map (Value.int .u8)) rfl hst (one8 _) (by have := HMM.out; rw [List.length_map]; unfold maxLen; omega) (by have := HMM.out; rw [List.length_map]; omega) (by simp) ?_))
  intro xv w4 hown4 hg4
  have hb4 := below_grown hb0 hown0 (Nat.le_refl _) (by simp) hg4
  have hx : Sl w4 xv ((bs.take n).map (Value.int .u8)) := by simpa using Sl.of_owns hown4
  have hk4 : Blk w4 g 129 #[.slice a bs.length c, .int .i64 0] := HK.out.below hb4 hgl
  have hs4 := hs.below hb4 (Nat.le_refl _)
  have HB4 := Lib.hid hb4
  have q0 : w4.cell? ⟨g, 0, none⟩ = some (.slice a bs.length c) := hk4.cell 0
  have f0 := hk4.frozen 0
  have HK4 := Lib.hid hk4
  have HX := Lib.hid hx
  obtain ⟨xa, xn, xc, rfl⟩ := hx.val
  clear hown4 hg4 hb4 hb0 hown0 hst hq0 hs hk4 hx
  go_wp2_with (refine wpList_from rfl _ _ 22 5 rfl Tryd.underlying22 size8 _ n _ rfl hs4 rfl (by simpa using HNN.out) ?_)
  intro ad2 c2 hs2
  rw [← List.map_drop] at hs2
  have hg1 : w4.grownBy (w4.setCell ⟨g, 0, none⟩ (.slice ad2 (bs.length - n) c2)) (some g) := only_setCell (p := ⟨g, 0, none⟩) (World.grownBy.refl w4 (some g)) (Or.inl rfl) _
  have hk1 := HK4.out.set_ 0 (.slice ad2 (bs.length - n) c2)
  have HX1 := Lib.hid (HX.out.keepG HK4.out (rrd_noB _ ⟨_, _, _, rfl⟩ _) hg1)
  have hs2' := hs2.keepG HK4.out (rrd_noB _ ⟨_, _, _, rfl⟩ _) hg1
  have HR := Lib.hid (show RRdAt w (w4.setCell ⟨g, 0, none⟩ (.slice ad2 (bs.length - n) c2)) g (bs.drop n) 0 from ⟨⟨_, hk1, hs2'⟩, (only_of_below HB4.out (some g)).trans hg1⟩)
  clear hg1 hk1 hs2' hs2 hs4
  go_wp2
  go_ret
  exact ⟨_, rfl, HX1.out, HR.out⟩

end Go.Proofs.YtililoojjfcfgaaDoor
