
/- Plain laws: a number, a text, read as it was written. Conditions: none. -/
import Derived.Test.YtjhannlioddkkaaGreatDoorRdP
import Derived.Test.YtjhannlioddkkaaGreatDoorCodecR
namespace Go.Proofs.YtjhannlioddkkaaGreatDoor
open Go.RowKit
set_option linter.unusedVariables false

theorem width_ex (m : Nat) : ∀ K, m < 256 ^ K → ∃ k, k ≤ K ∧ m < 256 ^ k ∧ (k = 0 ∨ 256 ^ (k - 1) ≤ m)
  | 0, h => ⟨0, Nat.le_refl _, h, .inl rfl⟩
  | K + 1, h => by
    rcases Nat.lt_or_ge m (256 ^ K) with h1 | h1
    · obtain ⟨k, hk, h2⟩ := width_ex m K h1
      exact ⟨k, by omega, h2⟩
    · exact ⟨K + 1, Nat.le_refl _, h, .inr (by simpa using h1)⟩

theorem width_spec (m : Nat) (h : m ≤ 4611686018427387904) : width m ≤ 8 ∧ m < 256 ^ width m ∧ (width m = 0 ∨ 256 ^ (width m - 1) ≤ m) := by
  obtain ⟨k, hk, h1, h2⟩ := width_ex m 8 (Nat.lt_of_le_of_lt h (by decide))
  have hw := width_of k m h1 h2 (Nat.lt_of_le_of_lt h (by decide))
  rw [hw]
  exact ⟨hk, h1, h2⟩

theorem beN_beI (m w : Nat) (h : m < 256 ^ w) : ∀ c, c ≤ w → beN (beI m w c) = ((m / 256 ^ (w - c) : Nat) : Int)
  | 0, _ => by
    rw [Nat.sub_zero, Nat.div_eq_of_lt h]; rfl
  | c + 1, hc => by
    rw [beI_succ, beN_snoc, beN_beI m w h c (by omega)]
    have e : w - c = (w - (c + 1)) + 1 := by omega
    have e2 : w - 1 - c = w - (c + 1) := by omega
    rw [e, Nat.pow_succ, ← Nat.div_div_eq_div_mul, e2]
    unfold dig
    omega

theorem uintN_read (m : Nat) (hm : m ≤ 4611686018427387904) (most : Int) (h : (m : Int) ≤ most) (rest : List Int) : uI most (uintN m ++ rest) 0 = ((m : Int), rest, (0 : Int)) := by
  obtain ⟨h8, hlt, hge⟩ := width_spec m hm
  have hL : (beI m (width m) (width m)).length = width m := beI_len _ _ _
  have e0 : uintN m ++ rest = (width m : Int) :: (beI m (width m) (width m) ++ rest) := rfl
  have ht : (beI m (width m) (width m) ++ rest).take (width m : Int).toNat = beI m (width m) (width m) := by
    rw [Int.toNat_natCast]; exact List.take_left' hL
  have hb : beN (beI m (width m) (width m)) = m := by
    rw [beN_beI m _ hlt _ (Nat.le_refl _), Nat.sub_self]; simp
  rw [e0, uI_ok]
  · rw [ht, hb, Int.toNat_natCast, List.drop_left' hL]
  · omega
  · rw [Int.toNat_natCast, List.length_append, hL]; omega
  · rw [ht, hb, Int.toNat_natCast]
    rintro (⟨hp, h0⟩ | h1)
    · rcases hge with hz | hge
      · omega
      · have hd : (beI m (width m) (width m) ++ rest).getD 0 0 = dig m (width m - 1) := by
          rw [List.getD_eq_getElem?_getD, List.getElem?_append_left (by rw [hL]; exact hp)]
          unfold beI
          rw [List.getElem?_map, List.getElem?_range hp]
          simp
        rw [hd] at h0
        unfold dig at h0
        have hpw : 256 ^ width m = 256 ^ (width m - 1) * 256 := by rw [← Nat.pow_succ]; congr 1; omega
        rw [hpw] at hlt
        have hq : m / 256 ^ (width m - 1) < 256 := Nat.div_lt_of_lt_mul hlt
        have hq1 : 1 ≤ m / 256 ^ (width m - 1) := (Nat.le_div_iff_mul_le (Nat.pow_pos (by decide))).2 (by omega)
        omega
    · omega
  · rw [ht, hb]; omega

theorem bytesI_read (s rest : List Int) (most : Int) (h : (s.length : Int) ≤ most) (hs : s.length ≤ 4611686018427387904) : bI most (bytesI s ++ rest) 0 = (s, rest, 0) := by
  have hu : uI most (bytesI s ++ rest) 0 = ((s.length : Int), s ++ rest, (0 : Int)) := by
    unfold bytesI
    rw [List.append_assoc]
    exact uintN_read s.length hs most h (s ++ rest)
  rw [bI_ok _ _ _ (by rw [hu]) (by rw [hu]; simp), hu]
  simp

theorem uintN_isB (m : Nat) (h : m ≤ 4611686018427387904) : IsB (uintN m) := by
  intro x hx
  have := (width_spec m h).1
  rcases List.mem_cons.1 hx with rfl | hx
  · omega
  · exact beI_isB _ _ _ x hx

end Go.Proofs.YtjhannlioddkkaaGreatDoor
