
/- The codec's reader: any number, any text; Err, Left, Open. -/
import Derived.Test.YtjhannlioddkkaaGreatDoorReaderU
namespace Go.Proofs.YtjhannlioddkkaaGreatDoor
open Go.RowKit
set_option linter.unusedVariables false

theorem RdAt.same {w : World} {g : Nat} {bs : List Int} {e : Int} (h : Rd w g bs e) : RdAt w w g bs e := ⟨h, World.grownBy.refl w (some g)⟩

theorem cruint_any (g : Nat) (bs : List Int) (er most : Int) (w : World) (hB : IsB bs) (hl : bs.length ≤ 140737488351232) (h : Rd w g bs er) :
    Calls Tryz.prog 42 #[.pointer (some ⟨g, 0, none⟩), .int .i64 most] w fun e w' => e = .returned (.int .i64 (uI most bs er).1) ∧ RdAt w w' g (uI most bs er).2.1 (uI most bs er).2.2 := by
  by_cases he : er = 0
  · subst he
    cases bs with
    | nil => rw [uI_nil]; exact ruint_nil g most w h
    | cons hd r =>
      have h0 := hB hd (by simp)
      have hl' : r.length ≤ 140737488351232 := by simp at hl; omega
      by_cases h8 : 8 < hd
      · rw [uI_wide most hd r h8]; exact ruint_wide g hd r most w h8 hl' h
      · by_cases hs : r.length < hd.toNat
        · rw [uI_short most hd r h8 hs]; exact ruint_cut g hd r most w h0.1 h8 hs h
        · exact ruint_read g hd r most w h0.1 h8 hs hl' (fun x hx => hB x (by simp [hx])) h
  · rw [uI_err most bs er he]
    exact (ruint_err g bs er most w he h).mono fun e w' ⟨h1, h2⟩ => ⟨h1, by subst h2; exact RdAt.same h⟩

set_option maxHeartbeats 1000000 in
theorem crbytes_any (g : Nat) (bs : List Int) (er most : Int) (w : World) (hB : IsB bs) (hl : bs.length ≤ 140737488351232) (h : Rd w g bs er) :
    Calls Tryz.prog 24 #[.pointer (some ⟨g, 0, none⟩), .int .i64 most] w fun e w' => ∃ x, e = .returned x ∧ Sl w' x ((bI most bs er).1.map (Value.int .u8)) ∧ RdAt w w' g (bI most bs er).2.1 (bI most bs er).2.2 := by
  have HU := Lib.hid (cruint_any g bs er most w hB hl h)
  have HV := Lib.hid (uI_val most bs er hB)
  have HL := Lib.hid (suf_len (uI_left most bs er))
  have HE := Lib.hid (bI_err most bs er)
  have HS := Lib.hid (bI_short most bs er)
  have HO := Lib.hid (bI_ok most bs er)
  have HLL := Lib.hid hl
  generalize bI most bs er = R at *
  generalize uI most bs er = U at *
  obtain ⟨n, lf, e2⟩ := U
  obtain ⟨N, rfl⟩ : ∃ N : Nat, n = N := ⟨n.toNat, by have := HV.out.1; simp at this; omega⟩
  simp only [Int.toNat_natCast] at HE HS HO HU HL
  clear h hB hl HV
  go_enter Tryz.func24, Tryz.ntmps24
  go_wp2_with fail
  refine HU.out.mono ?_
  rintro e w1 ⟨rfl, hr, hg⟩
  have HG := Lib.hid hg
  clear hg
  by_cases h2 : e2 = 0
  · subst h2
    by_cases hs : lf.length < N
    · have HR := Lib.hid (HS.out rfl hs)
      have HT := Lib.hid (rtake_short g lf N w1 hs hr)
      clear hs hr HE HO HS HL
      go_wp2_with fail
      refine HT.out.mono ?_
      rintro e w2 ⟨rfl, hr2, hg2⟩
      go_wp2
      go_ret
      rw [HR.out]
      exact ⟨_, rfl, Sl.nil _, hr2, HG.out.trans hg2⟩
    · have HR := Lib.hid (HO.out rfl hs)
      have HT := Lib.hid (rtake_ok g lf N w1 (by omega) hr)
      clear hs hr HE HO HS HL
      go_wp2_with fail
      refine HT.out.mono ?_
      rintro e w2 ⟨x, rfl, hx, hr2, hg2⟩
      go_wp2
      go_ret
      rw [HR.out]
      exact ⟨_, rfl, hx, hr2, HG.out.trans hg2⟩
  · have HR := Lib.hid (HE.out h2)
    have HT := Lib.hid (rtake_err g lf e2 N w1 h2 hr)
    have HRD := Lib.hid hr
    clear h2 hr HE HO HS HL
    go_wp2_with fail
    refine HT.out.mono ?_
    rintro e w2 ⟨rfl, rfl⟩
    go_wp2
    go_ret
    rw [HR.out]
    exact ⟨_, rfl, Sl.nil _, HRD.out, HG.out⟩

theorem crerr_any (g : Nat) (bs : List Int) (er : Int) (w : World) (h : Rd w g bs er) :
    Calls Tryz.prog 25 #[.pointer (some ⟨g, 0, none⟩)] w fun e w' => e = .returned (.int .i64 er) ∧ w = w' := by
  obtain ⟨v, hk, _⟩ := h
  have q2 : w.cell? ⟨g, 2, none⟩ = some (.int .i64 er) := hk.cell 2
  have HN := Lib.hid (rnone_any g _ _ w hk)
  clear hk
  go_enter Tryz.func25, Tryz.ntmps25
  go_wp2_with fail
  refine HN.out.mono ?_
  rintro e w1 ⟨rfl, rfl⟩
  go_wp2
  go_ret
  exact ⟨rfl, rfl⟩

theorem crleft_any (g : Nat) (bs : List Int) (er : Int) (w : World) (h : Rd w g bs er) :
    Calls Tryz.prog 28 #[.pointer (some ⟨g, 0, none⟩)] w fun e w' => e = .returned (.int .i64 bs.length) ∧ w = w' := by
  obtain ⟨a, c, hk, _⟩ := h.val
  have q1 : w.cell? ⟨g, 1, none⟩ = some (.slice a bs.length c) := hk.cell 1
  have HN := Lib.hid (rnone_any g _ _ w hk)
  clear hk h
  go_enter Tryz.func28, Tryz.ntmps28
  go_wp2_with fail
  refine HN.out.mono ?_
  rintro e w1 ⟨rfl, rfl⟩
  go_wp2
  go_ret
  exact ⟨rfl, rfl⟩

set_option maxHeartbeats 400000 in
theorem copen_any (v : Value) (bs : List Int) (w : World) (hl : bs.length ≤ 140737488351232) (hs : Sl w v (bs.map (Value.int .u8))) :
    Calls Tryz.prog 23 #[v] w fun e w' => ∃ g, e = .returned (.pointer (some ⟨g, 0, none⟩)) ∧ w.heap.size ≤ g ∧ Rd w' g bs 0 ∧ Below w.heap.size w w' := by
  have HC := Lib.hid (sclone_any v bs w (by omega) hs)
  clear hl hs
  go_enter Tryz.func23, Tryz.ntmps23
  go_wp2_with fail
  refine HC.out.mono ?_
  rintro e w1 ⟨x, rfl, hx, hb1⟩
  obtain ⟨a, n, c, rfl⟩ := hx.val
  have HB := Lib.hid (hb1.alloc hb1.size (.cells #[.bool true, .slice a n c, .int .i64 0] 68))
  have HX := Lib.hid (hx.below ((Below.refl _ _).alloc (Nat.le_refl _) (.cells #[.bool true, .slice a n c, .int .i64 0] 68)) (Nat.le_refl _))
  have HS := Lib.hid hb1.size
  clear hb1 hx
  go_wp2
  go_ret
  exact ⟨_, rfl, HS.out, ⟨_, Blk.new w1 68 #[.bool true, .slice a n c, .int .i64 0], HX.out⟩, HB.out⟩

end Go.Proofs.YtjhannlioddkkaaGreatDoor
