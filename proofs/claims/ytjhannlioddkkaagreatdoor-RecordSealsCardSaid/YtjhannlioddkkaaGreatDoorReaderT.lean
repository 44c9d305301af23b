
/- The codec's reader: take. -/
import Derived.Test.YtjhannlioddkkaaGreatDoorReaderF
import Derived.Test.YtjhannlioddkkaaGreatDoorSlc
namespace Go.Proofs.YtjhannlioddkkaaGreatDoor
open Go.RowKit
set_option linter.unusedVariables false

/-- What a call on the reader in block g leaves: what is left, the error, and that nothing else has turned. -/
def RdAt (w w' : World) (g : Nat) (bs : List Int) (e : Int) : Prop := Rd w' g bs e ∧ w.grownBy w' (some g)

theorem Rd.val {w : World} {g : Nat} {bs : List Int} {e : Int} (h : Rd w g bs e) : ∃ a c, Blk w g 68 #[.bool true, .slice a bs.length c, .int .i64 e] ∧ Sl w (.slice a bs.length c) (bs.map (Value.int .u8)) := by
  obtain ⟨v, h1, h2⟩ := h
  obtain ⟨a, c, rfl, _, _⟩ := h2.shape
  rw [List.length_map] at *
  exact ⟨a, c, h1, h2⟩

set_option maxHeartbeats 1000000 in
/-- There are so many bytes. -/
theorem rtake_ok (g : Nat) (bs : List Int) (n : Nat) (w : World) (hn : n ≤ bs.length) (h : Rd w g bs 0) :
    Calls Tryz.prog 43 #[.pointer (some ⟨g, 0, none⟩), .int .i64 n] w fun e w' => ∃ x, e = .returned x ∧ Sl w' x ((bs.take n).map (Value.int .u8)) ∧ RdAt w w' g (bs.drop n) 0 := by
  obtain ⟨a, c, hk, hs⟩ := h.val
  have q1 : w.cell? ⟨g, 1, none⟩ = some (.slice a bs.length c) := hk.cell 1
  have f1 := hk.frozen 1
  have HN := Lib.hid (rnone_any g _ _ w hk)
  have HO := Lib.hid (rok_true g _ 3 w hk)
  have HK := Lib.hid hk
  have hI : (n : Int) ≤ (bs.length : Int) := by omega
  have HNN := Lib.hid hn
  clear hk hn h
  go_enter Tryz.func43, Tryz.ntmps43
  go_wp2_with fail
  refine HN.out.mono ?_
  rintro e w1 ⟨rfl, rfl⟩
  go_wp2_with fail
  refine HO.out.mono ?_
  rintro e w1 ⟨rfl, rfl⟩
  go_wp2_with (refine wpList_upto3 rfl _ _ _ 22 5 rfl Tryz.underlying22 size8 _ n _ rfl hs rfl rfl (by simpa using HNN.out) ?_)
  intro ad1 hs1
  rw [← List.map_take] at hs1
  go_wp2_with (refine wpList_from rfl _ _ 22 5 rfl Tryz.underlying22 size8 _ n _ rfl hs rfl (by simpa using HNN.out) ?_)
  intro ad2 c2 hs2
  rw [← List.map_drop] at hs2
  have hg1 : w.grownBy (w.setCell ⟨g, 1, none⟩ (.slice ad2 (bs.length - n) c2)) (some g) := only_setCell (p := ⟨g, 1, none⟩) (World.grownBy.refl w (some g)) (Or.inl rfl) _
  have hk1 := HK.out.set_ 1 (.slice ad2 (bs.length - n) c2)
  have hs1' := hs1.keepG HK.out (rd_noB _ ⟨_, _, _, rfl⟩ _) hg1
  have hs2' := hs2.keepG HK.out (rd_noB _ ⟨_, _, _, rfl⟩ _) hg1
  have HR := Lib.hid (show RdAt w (w.setCell ⟨g, 1, none⟩ (.slice ad2 (bs.length - n) c2)) g (bs.drop n) 0 from ⟨⟨_, hk1, hs2'⟩, hg1⟩)
  clear hg1 hk1 hs2'
  go_wp2
  go_ret
  exact ⟨_, rfl, hs1', HR.out⟩

set_option maxHeartbeats 1000000 in
/-- There are not so many. -/
theorem rtake_short (g : Nat) (bs : List Int) (n : Nat) (w : World) (hn : bs.length < n) (h : Rd w g bs 0) :
    Calls Tryz.prog 43 #[.pointer (some ⟨g, 0, none⟩), .int .i64 n] w fun e w' => e = .returned (.slice none 0 0) ∧ RdAt w w' g [] 3 := by
  obtain ⟨a, c, hk, hs⟩ := h.val
  have q1 : w.cell? ⟨g, 1, none⟩ = some (.slice a bs.length c) := hk.cell 1
  have HN := Lib.hid (rnone_any g _ _ w hk)
  have HO := Lib.hid (rok_fail g _ 3 w (by decide) hk)
  have HD := Lib.hid (show decide (n ≤ bs.length) = false by simpa using hn)
  clear hk hn h hs
  go_enter Tryz.func43, Tryz.ntmps43
  go_wp2_with fail
  refine HN.out.mono ?_
  rintro e w1 ⟨rfl, rfl⟩
  go_wp2_with fail
  rw [HD.out]
  refine HO.out.mono ?_
  rintro e w1 ⟨rfl, hk1, hg1⟩
  go_wp2
  go_ret
  exact ⟨rfl, ⟨_, hk1, Sl.nil _⟩, hg1⟩

set_option maxHeartbeats 1000000 in
/-- There is an error already. -/
theorem rtake_err (g : Nat) (bs : List Int) (er : Int) (n : Int) (w : World) (he : ¬ er = 0) (h : Rd w g bs er) :
    Calls Tryz.prog 43 #[.pointer (some ⟨g, 0, none⟩), .int .i64 n] w fun e w' => e = .returned (.slice none 0 0) ∧ w = w' := by
  obtain ⟨a, c, hk, hs⟩ := h.val
  have q1 : w.cell? ⟨g, 1, none⟩ = some (.slice a bs.length c) := hk.cell 1
  have HN := Lib.hid (rnone_any g _ _ w hk)
  have HO := Lib.hid (fun so => rok_err g _ so er 3 w he hk)
  clear hk he h hs
  go_enter Tryz.func43, Tryz.ntmps43
  go_wp2_with fail
  refine HN.out.mono ?_
  rintro e w1 ⟨rfl, rfl⟩
  go_wp2_with fail
  refine (HO.out _).mono ?_
  rintro e w1 ⟨rfl, rfl⟩
  go_wp2
  go_ret
  exact ⟨rfl, rfl⟩

end Go.Proofs.YtjhannlioddkkaaGreatDoor
