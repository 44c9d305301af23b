
/- The codec's reader: Uint, Bytes, Err, Left. -/
import Derived.Test.YtjhannlioddkkaaGreatDoorReaderT
import Derived.Test.YtjhannlioddkkaaGreatDoorRdP
namespace Go.Proofs.YtjhannlioddkkaaGreatDoor
open Go.RowKit
set_option linter.unusedVariables false

theorem or_byte_u64 (n x : Int) (hn : 0 ≤ n ∧ n < 72057594037927936) (hx : 0 ≤ x ∧ x ≤ 255) : bits BinOp.or IntKind.u64 (n * 256 % 18446744073709551616) x = n * 256 + x := by
  obtain ⟨a, rfl⟩ := Int.eq_ofNat_of_zero_le hn.1
  obtain ⟨b, rfl⟩ := Int.eq_ofNat_of_zero_le hx.1
  have e : a * 256 ||| b = a * 256 + b := by
    have := Nat.shiftLeft_add_eq_or_of_lt (b := b) (i := 8) (by omega) a
    rw [Nat.shiftLeft_eq] at this
    exact this.symm
  show IntKind.u64.wrap (((BitVec.ofInt 64 ((a : Int) * 256 % 18446744073709551616)) ||| (BitVec.ofInt 64 (b : Int))).toNat : Int) = _
  rw [show (a : Int) * 256 % 18446744073709551616 = ((a * 256 : Nat) : Int) by omega, BitVec.ofInt_natCast, BitVec.ofInt_natCast, BitVec.toNat_or, BitVec.toNat_ofNat, BitVec.toNat_ofNat, Nat.mod_eq_of_lt (by omega), Nat.mod_eq_of_lt (by omega), e, IntKind.wrap_u64]
  omega

theorem nilEq (w : World) : (binOp .eql 22 (.slice none 0 0) (.slice none 0 0)).run Tryz.prog w = .ok (.bool true) w := Lib.run_eql_slice_nil w 22 5 none _ _ _ _ Tryz.underlying22
theorem someEq (ad : Addr) (n c : Nat) (w : World) : (binOp .eql 22 (.slice (some ad) n c) (.slice none 0 0)).run Tryz.prog w = .ok (.bool false) w := Lib.run_eql_slice_nil w 22 5 (some ad) _ _ _ _ Tryz.underlying22

set_option maxHeartbeats 1000000 in
theorem ruint_err (g : Nat) (bs : List Int) (er most : Int) (w : World) (he : ¬ er = 0) (h : Rd w g bs er) :
    Calls Tryz.prog 42 #[.pointer (some ⟨g, 0, none⟩), .int .i64 most] w fun e w' => e = .returned (.int .i64 0) ∧ w = w' := by
  have HT := Lib.hid (rtake_err g bs er 1 w he h)
  have hq := nilEq
  clear he h
  go_enter Tryz.func42, Tryz.ntmps42
  go_wp2_with fail
  refine HT.out.mono ?_
  rintro e w1 ⟨rfl, rfl⟩
  go_wp2
  go_ret
  exact ⟨rfl, rfl⟩

set_option maxHeartbeats 1000000 in
theorem ruint_nil (g : Nat) (most : Int) (w : World) (h : Rd w g [] 0) :
    Calls Tryz.prog 42 #[.pointer (some ⟨g, 0, none⟩), .int .i64 most] w fun e w' => e = .returned (.int .i64 0) ∧ RdAt w w' g [] 3 := by
  have HT := Lib.hid (rtake_short g [] 1 w (by decide) h)
  have hq := nilEq
  clear h
  go_enter Tryz.func42, Tryz.ntmps42
  go_wp2_with fail
  refine HT.out.mono ?_
  rintro e w1 ⟨rfl, hr⟩
  go_wp2
  go_ret
  exact ⟨rfl, hr⟩

theorem RdAt.ok {w w1 : World} {g : Nat} {bs : List Int} (h : RdAt w w1 g bs 0) (er : Int) : ∃ v, Blk w1 g 68 #[.bool true, v, .int .i64 0] := by
  obtain ⟨⟨v, h1, _⟩, _⟩ := h
  exact ⟨v, h1⟩

set_option maxHeartbeats 1000000 in
theorem ruint_wide (g : Nat) (hd : Int) (r : List Int) (most : Int) (w : World) (h8 : 8 < hd) (hl : r.length ≤ 140737488351232) (h : Rd w g (hd :: r) 0) :
    Calls Tryz.prog 42 #[.pointer (some ⟨g, 0, none⟩), .int .i64 most] w fun e w' => e = .returned (.int .i64 0) ∧ RdAt w w' g [] 5 := by
  have HT := Lib.hid (rtake_ok g (hd :: r) 1 w (by simp) h)
  have hI : ¬ hd ≤ 8 := by omega
  clear h hl
  go_enter Tryz.func42, Tryz.ntmps42
  go_wp2_with fail
  refine HT.out.mono ?_
  rintro e w1 ⟨x, rfl, hx, ⟨v, hk, _⟩, hg⟩
  simp only [List.take_succ_cons, List.take_zero] at hx
  obtain ⟨a, c, rfl, hc, hm⟩ := hx.shape
  obtain ⟨b, off, rfl, hlt, hcell⟩ := hx.addr (by simp)
  have q0 : w1.cell? ⟨b, off, none⟩ = some (.int .u8 hd) := by have := hcell 0 (.int .u8 hd) (by simp); simpa using this
  have hq := someEq ⟨b, off, none⟩ 1 c
  have HF := Lib.hid (rok_fail g _ 5 w1 (by decide) hk)
  have HG := Lib.hid hg
  simp only [List.map_cons, List.map_nil, List.length_cons, List.length_nil, Nat.zero_add] at *
  clear hcell hx hk hg
  go_wp2_with fail
  rw [show decide (hd ≤ 8) = false by simpa using h8]
  refine HF.out.mono ?_
  rintro e w2 ⟨rfl, hk2, hg2⟩
  have HR := Lib.hid (show RdAt w w2 g [] 5 from ⟨⟨_, hk2, Sl.nil _⟩, HG.out.trans hg2⟩)
  clear hk2 hg2 q0
  go_wp2
  go_ret
  exact ⟨rfl, HR.out⟩

set_option maxHeartbeats 1000000 in
theorem ruint_cut (g : Nat) (hd : Int) (r : List Int) (most : Int) (w : World) (h0 : 0 ≤ hd) (h8 : ¬ 8 < hd) (hs : r.length < hd.toNat) (h : Rd w g (hd :: r) 0) :
    Calls Tryz.prog 42 #[.pointer (some ⟨g, 0, none⟩), .int .i64 most] w fun e w' => e = .returned (.int .i64 0) ∧ RdAt w w' g [] 3 := by
  have HT := Lib.hid (rtake_ok g (hd :: r) 1 w (by simp) h)
  obtain ⟨N, rfl⟩ : ∃ N : Nat, hd = N := ⟨hd.toNat, by omega⟩
  have hI : (N : Int) ≤ 8 := by omega
  have hsN : r.length < N := by omega
  clear h h0 hs
  go_enter Tryz.func42, Tryz.ntmps42
  go_wp2_with fail
  refine HT.out.mono ?_
  rintro e w1 ⟨x, rfl, hx, hr1, hg⟩
  simp only [List.take_succ_cons, List.take_zero, List.drop_succ_cons, List.drop_zero] at hx hr1
  obtain ⟨v, hk, _⟩ := id hr1
  obtain ⟨a, c, rfl, hc, hm⟩ := hx.shape
  obtain ⟨b, off, rfl, hlt, hcell⟩ := hx.addr (by simp)
  have q0 : w1.cell? ⟨b, off, none⟩ = some (.int .u8 N) := by have := hcell 0 (.int .u8 N) (by simp); simpa using this
  have hq := someEq ⟨b, off, none⟩ 1 c
  have HF := Lib.hid (rok_true g _ 5 w1 hk)
  have HS := Lib.hid (rtake_short g r N w1 hsN hr1)
  have HG := Lib.hid hg
  simp only [List.map_cons, List.map_nil, List.length_cons, List.length_nil, Nat.zero_add] at *
  clear hcell hx hk hg hr1 hsN h8
  go_wp2_with fail
  refine HF.out.mono ?_
  rintro e w2 ⟨rfl, rfl⟩
  go_wp2_with fail
  refine HS.out.mono ?_
  rintro e w2 ⟨rfl, ⟨v2, hk2, _⟩, hg2⟩
  have HE := Lib.hid (rok_err g _ true 3 5 w2 (by decide) hk2)
  have HR := Lib.hid (show RdAt w w2 g [] 3 from ⟨⟨v2, hk2, by assumption⟩, HG.out.trans hg2⟩)
  clear hk2 hg2 q0
  go_wp2
  go_loopw [7, 32] (fun n i wr => n = .int .u64 0 ∧ i = .int .i64 0 ∧ w2 = wr) (fun _ _ _ => 0)
  case atStart => exact ⟨rfl, rfl, rfl⟩
  case round =>
    obtain ⟨rfl, rfl, rfl⟩ := hrel
    go_wp2_with fail
    refine HE.out.mono ?_
    rintro e w3 ⟨rfl, rfl⟩
    go_wp2
    go_ret
    exact ⟨rfl, HR.out⟩

set_option maxHeartbeats 3000000 in
theorem ruint_read (g : Nat) (hd : Int) (r : List Int) (most : Int) (w : World) (h0 : 0 ≤ hd) (h8 : ¬ 8 < hd) (hs : ¬ r.length < hd.toNat) (hl : r.length ≤ 140737488351232) (hB : IsB r) (h : Rd w g (hd :: r) 0) :
    Calls Tryz.prog 42 #[.pointer (some ⟨g, 0, none⟩), .int .i64 most] w fun e w' => e = .returned (.int .i64 (uI most (hd :: r) 0).1) ∧ RdAt w w' g (uI most (hd :: r) 0).2.1 (uI most (hd :: r) 0).2.2 := by
  have HT := Lib.hid (rtake_ok g (hd :: r) 1 w (by simp) h)
  have HU1 := Lib.hid (uI_form most hd r h8 hs)
  have HU2 := Lib.hid (uI_full most hd r h8 hs)
  have HU3 := Lib.hid (uI_ok most hd r h8 hs)
  generalize uI most (hd :: r) 0 = U at *
  obtain ⟨N, rfl⟩ : ∃ N : Nat, hd = N := ⟨hd.toNat, by omega⟩
  have hI : (N : Int) ≤ 8 := by omega
  have hsN : N ≤ r.length := by omega
  rw [show (N : Int).toNat = N by omega] at HU1 HU2 HU3
  have HL := Lib.hid (show (r.take N).length = N by rw [List.length_take]; omega)
  have HX := Lib.hid (show 0 < N → (r.take N).getD 0 0 = r.getD 0 0 from fun hp => by
    rw [List.getD_eq_getElem?_getD, List.getD_eq_getElem?_getD, List.getElem?_take, if_pos hp])
  have HBL := Lib.hid (show IsB (r.take N) from fun x hx => hB x (List.mem_of_mem_take hx))
  have HW := Lib.hid (show r.length ≤ 140737488351232 by omega)
  have HI8 := Lib.hid (show N ≤ 8 by omega)
  clear h h0 hs hB h8 hl
  go_enter Tryz.func42, Tryz.ntmps42
  go_wp2_with fail
  refine HT.out.mono ?_
  rintro e w1 ⟨x, rfl, hx, hr1, hg⟩
  simp only [List.take_succ_cons, List.take_zero, List.drop_succ_cons, List.drop_zero] at hx hr1
  obtain ⟨v, hk, _⟩ := id hr1
  obtain ⟨a, c, rfl, hc, hm⟩ := hx.shape
  obtain ⟨b, off, rfl, hlt, hcell⟩ := hx.addr (by simp)
  have q0 : w1.cell? ⟨b, off, none⟩ = some (.int .u8 N) := by have := hcell 0 (.int .u8 N) (by simp); simpa using this
  have hq := someEq ⟨b, off, none⟩ 1 c
  have HF := Lib.hid (rok_true g _ 5 w1 hk)
  have HS := Lib.hid (rtake_ok g r N w1 hsN hr1)
  have HG := Lib.hid hg
  simp only [List.map_cons, List.map_nil, List.length_cons, List.length_nil, Nat.zero_add] at *
  clear hcell hx hk hg hr1 hsN
  go_wp2_with fail
  refine HF.out.mono ?_
  rintro e w2 ⟨rfl, rfl⟩
  go_wp2_with fail
  refine HS.out.mono ?_
  rintro e w2 ⟨lv, rfl, hlv, hr2, hg2⟩
  have HG := Lib.hid (HG.out.trans hg2)
  clear HF HS HT q0 hg2
  obtain ⟨v2, hk2, hv2⟩ := id hr2
  have HT5 := Lib.hid (rok_true g v2 5 w2 hk2)
  have HT4 := Lib.hid (rok_true g v2 4 w2 hk2)
  have HF5 := Lib.hid (rok_fail g v2 5 w2 (by decide) hk2)
  have HF4 := Lib.hid (rok_fail g v2 4 w2 (by decide) hk2)
  have HR2 := Lib.hid hr2
  clear hk2 hv2 hr2
  generalize r.take N = L at *
  obtain ⟨la, lc, rfl, hlc, hlm⟩ := hlv.shape
  rw [List.length_map] at hlc hlv
  rw [List.length_map]
  rw [HL.out] at hlc hlv
  rw [HL.out]
  go_wp2
  go_loopw [7, 32] (fun n i wr => ∃ k : Nat, k ≤ N ∧ i = .int .i64 k ∧ n = .int .u64 (beN (L.take k)) ∧ w2 = wr) (fun _ i _ => N - (intOf i).toNat)
  case atStart => exact ⟨0, by omega, rfl, rfl, rfl⟩
  case round =>
    obtain ⟨k, hk, rfl, rfl, rfl⟩ := hrel
    by_cases hlt : k < N
    · have hkI : (k : Int) < (N : Int) := by omega
      obtain ⟨b3, o3, rfl, hb3, hc3⟩ := hlv.ints (k := k) (by rw [HL.out]; exact hlt)
      have hc3 := hc3 k (by rw [HL.out]; exact hlt)
      have HTK := Lib.hid (beN_take L k (by rw [HL.out]; exact hlt))
      have hyb := HBL.out (L.getD k 0) (by rw [List.getD_eq_getElem?_getD, List.getElem?_eq_getElem (by rw [HL.out]; exact hlt)]; exact List.getElem_mem _)
      generalize L.getD k 0 = y at *
      have hbn := beN_pos (L.take k) (fun x hx => HBL.out x (List.mem_of_mem_take hx))
      have hbn : 0 ≤ beN (L.take k) ∧ beN (L.take k) < 72057594037927936 := by
        refine ⟨hbn.1, Int.lt_of_lt_of_le hbn.2 ?_⟩
        have h1 : (L.take k).length ≤ 7 := by rw [List.length_take, HL.out]; have := HI8.out; omega
        have h2 : (256 : Nat) ^ (L.take k).length ≤ 256 ^ 7 := Nat.pow_le_pow_right (by decide) h1
        have h3 : (256 : Int) ^ (L.take k).length = ((256 ^ (L.take k).length : Nat) : Int) := by simp
        rw [h3]; omega
      generalize beN (L.take k) = B at *
      have HOR := Lib.hid (or_byte_u64 B y hbn hyb)
      have HBN := Lib.hid hbn
      clear hbn
      go_wp2
      exact ⟨⟨k + 1, by omega, by go_num, by rw [IntKind.wrap_u64, HOR.out, HTK.out], trivial⟩, by simp [intOf]; omega⟩
    · obtain rfl : k = N := by omega
      have hkI : ¬ (k : Int) < (k : Int) := by omega
      have hLk : L.take k = L := List.take_of_length_le (by rw [HL.out]; exact Nat.le_refl _)
      rw [hLk]
      have hbn := (beN_pos L HBL.out).1
      have hbm : beN L < 18446744073709551616 := by
        refine Int.lt_of_lt_of_le (beN_pos L HBL.out).2 ?_
        have h1 : L.length ≤ 8 := by rw [HL.out]; exact HI8.out
        have h2 : (256 : Nat) ^ L.length ≤ 256 ^ 8 := Nat.pow_le_pow_right (by decide) h1
        have h3 : (256 : Int) ^ L.length = ((256 ^ L.length : Nat) : Int) := by simp
        rw [h3]; omega
      have HB0 := Lib.hid (show k = 0 → beN L = 0 from fun h => by
        obtain rfl : L = [] := List.length_eq_zero_iff.1 (by rw [HL.out]; exact h)
        rfl)
      clear hLk
      by_cases hk0 : k = 0
      · subst hk0
        have hB0 := HB0.out rfl
        rw [hB0] at HU1 HU2 HU3 ⊢
        have HU2 := Lib.hid (HU2.out (by simp))
        have HU3 := Lib.hid (HU3.out (by simp))
        clear hB0 hbn hbm
        by_cases hm : most < 0
        · have hD : decide (0 ≤ most) = false := by simpa using hm
          have HU := Lib.hid (HU2.out hm)
          have HD := Lib.hid hD
          have hmI : ¬ (0 : Int) ≤ most := by omega
          clear hD hm
          go_wp2_with fail
          refine HT5.out.mono ?_
          rintro e w3 ⟨rfl, rfl⟩
          go_wp2_with fail
          try rw [HD.out]
          refine HF4.out.mono ?_
          rintro e w3 ⟨rfl, hk3, hg3⟩
          go_wp2
          go_ret
          rw [HU.out]
          exact ⟨rfl, ⟨_, hk3, Sl.nil _⟩, HG.out.trans hg3⟩
        · have HU := Lib.hid (HU3.out (by omega))
          have hmI : (0 : Int) ≤ most := by omega
          clear hm
          go_wp2_with fail
          refine HT5.out.mono ?_
          rintro e w3 ⟨rfl, rfl⟩
          go_wp2_with fail
          refine HT4.out.mono ?_
          rintro e w3 ⟨rfl, rfl⟩
          go_wp2
          go_ret
          rw [HU.out]
          exact ⟨rfl, HR2.out, HG.out⟩
      · obtain ⟨b3, o3, rfl, hb3, hc3⟩ := hlv.ints (k := 0) (by rw [HL.out]; omega)
        have hc3 := hc3 0 (by rw [HL.out]; omega)
        rw [Nat.add_zero, HX.out (by omega)] at hc3
        have hkI2 : (0 : Int) < (k : Int) := by omega
        have hkI3 : ¬ (k : Int) = 0 := by omega
        generalize r.getD 0 0 = y at *
        generalize beN L = B at *
        by_cases hy : y = 0
        · have HU := Lib.hid (HU1.out (.inl ⟨by omega, hy⟩))
          subst hy
          clear HB0 hbn hbm
          go_wp2_with fail
          refine HF5.out.mono ?_
          rintro e w3 ⟨rfl, hk3, hg3⟩
          go_wp2
          go_ret
          rw [HU.out]
          exact ⟨rfl, ⟨_, hk3, Sl.nil _⟩, HG.out.trans hg3⟩
        · by_cases hbig : 4611686018427387904 < B
          · have HU := Lib.hid (HU1.out (.inr hbig))
            have hbigI : ¬ B ≤ 4611686018427387904 := by omega
            have HD := Lib.hid (show decide (B ≤ 4611686018427387904) = false by simpa using hbigI)
            clear HB0 hbn hbm
            go_wp2_with fail
            try rw [HD.out]
            refine HF5.out.mono ?_
            rintro e w3 ⟨rfl, hk3, hg3⟩
            go_wp2
            go_ret
            rw [HU.out]
            exact ⟨rfl, ⟨_, hk3, Sl.nil _⟩, HG.out.trans hg3⟩
          · have hbigI : B ≤ 4611686018427387904 := by omega
            have HU2 := Lib.hid (HU2.out (by simp [hy]; omega))
            have HU3 := Lib.hid (HU3.out (by simp [hy]; omega))
            have HSH := Lib.hid (show (((k : Int) == 0) || (y != 0)) = true by simp [hy])
            by_cases hm : most < B
            · have HU := Lib.hid (HU2.out hm)
              have hmI : ¬ B ≤ most := by omega
              have HD := Lib.hid (show decide (B ≤ most) = false by simpa using hm)
              clear HB0 hm hbig
              go_wp2_with fail
              try rw [HSH.out]
              refine HT5.out.mono ?_
              rintro e w3 ⟨rfl, rfl⟩
              go_wp2_with fail
              try rw [HD.out]
              refine HF4.out.mono ?_
              rintro e w3 ⟨rfl, hk3, hg3⟩
              go_wp2
              go_ret
              rw [HU.out]
              exact ⟨rfl, ⟨_, hk3, Sl.nil _⟩, HG.out.trans hg3⟩
            · have HU := Lib.hid (HU3.out (by omega))
              have hmI : B ≤ most := by omega
              clear HB0 hm hbig
              go_wp2_with fail
              try rw [HSH.out]
              refine HT5.out.mono ?_
              rintro e w3 ⟨rfl, rfl⟩
              go_wp2_with fail
              refine HT4.out.mono ?_
              rintro e w3 ⟨rfl, rfl⟩
              go_wp2
              go_ret
              rw [HU.out]
              exact ⟨rfl, HR2.out, HG.out⟩

end Go.Proofs.YtjhannlioddkkaaGreatDoor
