
/- seglog.four, value, blank: the walks. Conditions: none. -/
import Derived.Test.YtgfkejecigefbaaDoorSgQ
import Derived.Test.YtgfkejecigefbaaDoorSlc
import Derived.Test.YtgfkejecigefbaaDoorConc
namespace Go.Proofs.YtgfkejecigefbaaDoor
open Go.RowKit
set_option linter.unusedVariables false

theorem or_byte_sg (n x : Int) (hn : 0 ≤ n ∧ n < 72057594037927936) (hx : 0 ≤ x ∧ x ≤ 255) : bits BinOp.or IntKind.u64 (n * 256 % 18446744073709551616) x = n * 256 + x := by
  obtain ⟨a, rfl⟩ := Int.eq_ofNat_of_zero_le hn.1
  obtain ⟨b, rfl⟩ := Int.eq_ofNat_of_zero_le hx.1
  have e : a * 256 ||| b = a * 256 + b := by
    have := Nat.shiftLeft_add_eq_or_of_lt (b := b) (i := 8) (by omega) a
    rw [Nat.shiftLeft_eq] at this
    exact this.symm
  show IntKind.u64.wrap (((BitVec.ofInt 64 ((a : Int) * 256 % 18446744073709551616)) ||| (BitVec.ofInt 64 (b : Int))).toNat : Int) = _
  rw [show (a : Int) * 256 % 18446744073709551616 = ((a * 256 : Nat) : Int) by omega, BitVec.ofInt_natCast, BitVec.ofInt_natCast, BitVec.toNat_or, BitVec.toNat_ofNat, BitVec.toNat_ofNat, Nat.mod_eq_of_lt (by omega), Nat.mod_eq_of_lt (by omega), e, IntKind.wrap_u64]
  omega

set_option maxHeartbeats 400000 in
theorem sfour_any (n : Int) (w : World) (h0 : -9223372036854775808 ≤ n) (h1 : n ≤ 9223372036854775807) :
    Calls Tryd.prog 60 #[.int .i64 n] w fun e w' => ∃ x, e = .returned x ∧ Sl w' x ((fourI n).map (Value.int .u8)) ∧ Below w.heap.size w w' := by
  have HN := Lib.hid (number_any n w h0 h1)
  go_enter Tryd.func60, Tryd.ntmps60
  go_wp2_with fail
  refine HN.out.mono ?_
  rintro e w1 ⟨x, rfl, hx, hb⟩
  obtain ⟨a, c, rfl, hc, hm⟩ := hx.shape
  rw [List.length_map, numI_len] at *
  obtain ⟨b, o, rfl, hlt, _⟩ := hx.addr (by simp [numI_len])
  have HX := Lib.hid hx
  have HB := Lib.hid hb
  clear hx hb
  go_wp2_with (refine wpList_from rfl _ _ 26 5 rfl Tryd.underlying26 size8 _ 4 _ rfl HX.out rfl (by simp [numI_len]) ?_)
  intro ad cap h4
  have H4 := Lib.hid h4
  clear h4
  go_wp2
  go_ret
  exact ⟨_, rfl, by have h := H4.out; rw [← List.map_drop] at h; exact h, HB.out⟩

set_option maxHeartbeats 1000000 in
theorem svalue_any (v : Value) (bs : List Int) (w : World) (hl : bs.length ≤ 7) (hB : IsB bs) (h : Sl w v (bs.map (Value.int .u8))) :
    Calls Tryd.prog 64 #[v] w fun e w' => e = .returned (.int .u64 (valI bs)) ∧ w = w' := by
  obtain ⟨a, c, rfl, hc, hm⟩ := h.shape
  rw [List.length_map] at *
  have HH := Lib.hid h
  have HBB := Lib.hid hB
  clear h hB
  go_enter Tryd.func64, Tryd.ntmps64
  go_wp2
  go_loopw [3, 8] (fun n i wr => ∃ (k : Nat) (x : Int), k ≤ bs.length ∧ n = .int .u64 x ∧ Hid (x = valI (bs.take k) ∧ 0 ≤ x ∧ x < 256 ^ k) ∧ i = .int .i64 k ∧ w = wr) (fun _ i _ => bs.length - (intOf i).toNat)
  case atStart => exact ⟨0, 0, by omega, rfl, Lib.hid ⟨rfl, by decide, by decide⟩, rfl, rfl⟩
  case round =>
    obtain ⟨k, x, hk, rfl, hx, rfl, rfl⟩ := hrel
    by_cases hlt : k < bs.length
    · have hkI : (k : Int) < (bs.length : Int) := by omega
      obtain ⟨b, o, rfl, hlt2, hcell⟩ := HH.out.addr (by rw [List.length_map]; omega)
      have q0 : w.cell? ⟨b, o + k, none⟩ = some (.int .u8 bs[k]) := hcell k _ (by rw [List.getElem?_map, List.getElem?_eq_getElem hlt]; rfl)
      have hby := HBB.out bs[k] (List.getElem_mem hlt)
      have hp7 : x < 72057594037927936 := Int.lt_of_lt_of_le hx.out.2.2 (by
        have h7 : k ≤ 6 := by omega
        match k, h7 with
        | 0, _ => decide
        | 1, _ => decide
        | 2, _ => decide
        | 3, _ => decide
        | 4, _ => decide
        | 5, _ => decide
        | 6, _ => decide)
      have hor := or_byte_sg x bs[k] ⟨hx.out.2.1, hp7⟩ hby
      have hor : bits BinOp.or IntKind.u64 (IntKind.u64.wrap (x * 256)) (IntKind.u64.wrap bs[k]) = x * 256 + bs[k] := by
        rw [IntKind.wrap_u64, IntKind.wrap_u64, Int.emod_eq_of_lt (a := bs[k]) (by omega) (by omega)]; exact hor
      clear hcell
      have HV := Lib.hid (show x * 256 + bs[k] = valI (bs.take (k + 1)) from by
        rw [hx.out.1, List.take_succ_eq_append_getElem hlt]
        unfold valI
        rw [List.foldl_append]
        rfl)
      have HBD := Lib.hid (show 0 ≤ x * 256 + bs[k] ∧ x * 256 + bs[k] < 256 ^ (k + 1) from by
        have := hx.out.2
        rw [Int.pow_succ]; omega)
      generalize bs[k] = y at *
      clear hby hp7
      go_wp2
      go_roundw
      case rel => exact ⟨k + 1, _, hlt, rfl, Lib.hid ⟨HV.out, HBD.out⟩, by go_num, trivial⟩
      case measure => simp [intOf]; omega
    · obtain rfl : k = bs.length := by omega
      have hkI : ¬ (bs.length : Int) < (bs.length : Int) := by omega
      have HX := Lib.hid hx.out.1
      rw [List.take_length] at HX
      clear hx
      go_wp2
      go_ret
      exact ⟨by show Ending.returned (.int .u64 x) = _; rw [HX.out], rfl⟩

end Go.Proofs.YtgfkejecigefbaaDoor
