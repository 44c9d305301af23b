/- Plain laws: what was written is read. Conditions: none. -/
import Derived.Test.YtpdajglcpkfonaaPairs
import Derived.Test.YtpdajglcpkfonaaWrite
namespace Go.Proofs.Ytpdajglcpkfonaa
open Go.RowKit
set_option linter.unusedVariables false

theorem width_ex (m : Nat) : ∀ K, m < 256 ^ K → ∃ k, k ≤ K ∧ m < 256 ^ k ∧ (k = 0 ∨ 256 ^ (k - 1) ≤ m)
  | 0, h => ⟨0, Nat.le_refl _, h, .inl rfl⟩
  | K + 1, h => by
    rcases Nat.lt_or_ge m (256 ^ K) with h1 | h1
    · obtain ⟨k, hk, h2⟩ := width_ex m K h1
      exact ⟨k, by omega, h2⟩
    · exact ⟨K + 1, Nat.le_refl _, h, .inr (by simpa using h1)⟩

theorem width_spec (m : Nat) (h : m ≤ 4611686018427387904) : width m ≤ 8 ∧ m < 256 ^ width m ∧ (width m = 0 ∨ 256 ^ (width m - 1) ≤ m) := by
  obtain ⟨k, hk, h1, h2⟩ := width_ex m 8 (Nat.lt_of_le_of_lt h (by decide))
  have hw := width_of k m h1 h2 (Nat.lt_of_le_of_lt h (by decide))
  rw [hw]
  exact ⟨hk, h1, h2⟩

theorem beN_beI (m w : Nat) (h : m < 256 ^ w) : ∀ c, c ≤ w → beN (beI m w c) = ((m / 256 ^ (w - c) : Nat) : Int)
  | 0, _ => by
    rw [Nat.sub_zero, Nat.div_eq_of_lt h]; rfl
  | c + 1, hc => by
    rw [beI_succ, beN_snoc, beN_beI m w h c (by omega)]
    have e : w - c = (w - (c + 1)) + 1 := by omega
    have e2 : w - 1 - c = w - (c + 1) := by omega
    rw [e, Nat.pow_succ, ← Nat.div_div_eq_div_mul, e2]
    unfold dig
    omega

theorem uintN_read (m : Nat) (hm : m ≤ 4611686018427387904) (most : Int) (h : (m : Int) ≤ most) (rest : List Int) : uI most (uintN m ++ rest) 0 = ((m : Int), rest, (0 : Int)) := by
  obtain ⟨h8, hlt, hge⟩ := width_spec m hm
  have hL : (beI m (width m) (width m)).length = width m := beI_len _ _ _
  have e0 : uintN m ++ rest = (width m : Int) :: (beI m (width m) (width m) ++ rest) := rfl
  have ht : (beI m (width m) (width m) ++ rest).take (width m : Int).toNat = beI m (width m) (width m) := by
    rw [Int.toNat_natCast]; exact List.take_left' hL
  have hb : beN (beI m (width m) (width m)) = m := by
    rw [beN_beI m _ hlt _ (Nat.le_refl _), Nat.sub_self]; simp
  rw [e0, uI_ok]
  · rw [ht, hb, Int.toNat_natCast, List.drop_left' hL]
  · omega
  · rw [Int.toNat_natCast, List.length_append, hL]; omega
  · rw [ht, hb, Int.toNat_natCast]
    rintro (⟨hp, h0⟩ | h1)
    · rcases hge with hz | hge
      · omega
      · have hd : (beI m (width m) (width m) ++ rest).getD 0 0 = dig m (width m - 1) := by
          rw [List.getD_eq_getElem?_getD, List.getElem?_append_left (by rw [hL]; exact hp)]
          unfold beI
          rw [List.getElem?_map, List.getElem?_range hp]
          simp
        rw [hd] at h0
        unfold dig at h0
        have hpw : 256 ^ width m = 256 ^ (width m - 1) * 256 := by rw [← Nat.pow_succ]; congr 1; omega
        rw [hpw] at hlt
        have hq : m / 256 ^ (width m - 1) < 256 := Nat.div_lt_of_lt_mul hlt
        have hq1 : 1 ≤ m / 256 ^ (width m - 1) := (Nat.le_div_iff_mul_le (Nat.pow_pos (by decide))).2 (by omega)
        omega
    · omega
  · rw [ht, hb]; omega

theorem bytesI_read (s rest : List Int) (most : Int) (h : (s.length : Int) ≤ most) (hs : s.length ≤ 4611686018427387904) : bI most (bytesI s ++ rest) 0 = (s, rest, 0) := by
  have hu : uI most (bytesI s ++ rest) 0 = ((s.length : Int), s ++ rest, (0 : Int)) := by
    unfold bytesI
    rw [List.append_assoc]
    exact uintN_read s.length hs most h (s ++ rest)
  rw [bI_ok _ _ _ (by rw [hu]) (by rw [hu]; simp), hu]
  simp

def flatB (l : List Chg) : List Int := l.flatMap fun p => bytesI p.1 ++ bytesI p.2

theorem rdN_read (mi mk : Int) (l : List Chg) (more : List Int) (h : ∀ p ∈ l, (p.1.length : Int) ≤ mi ∧ (p.2.length : Int) ≤ mk ∧ p.1.length ≤ 4611686018427387904 ∧ p.2.length ≤ 4611686018427387904) :
    ∀ k, k ≤ l.length → rdN mi mk k ([], flatB l ++ more, 0) = (l.take k, flatB (l.drop k) ++ more, 0)
  | 0, _ => by simp [rdN]
  | k + 1, hk => by
    have ih := rdN_read mi mk l more h k (by omega)
    show rdStep mi mk (rdN mi mk k ([], flatB l ++ more, 0)) = _
    rw [ih]
    have hp := h _ (List.getElem_mem (show k < l.length by omega))
    have e : flatB (l.drop k) ++ more = bytesI l[k].1 ++ (bytesI l[k].2 ++ (flatB (l.drop (k + 1)) ++ more)) := by
      rw [List.drop_eq_getElem_cons (show k < l.length by omega)]
      unfold flatB
      rw [List.flatMap_cons, List.append_assoc, List.append_assoc]
    unfold rdStep
    simp only [e, bytesI_read _ _ _ hp.1 hp.2.2.1, bytesI_read _ _ _ hp.2.1 hp.2.2.2]
    rw [List.take_succ_eq_append_getElem (show k < l.length by omega)]

theorem chk_zero {mi mk : Int} {l : List Chg} (h : chkI mi mk l = 0) : l.length ≤ 32 ∧ ∀ p ∈ l, (p.1.length : Int) ≤ mi ∧ (p.2.length : Int) ≤ mk := by
  unfold chkI at h
  split at h
  · omega
  · split at h
    · omega
    · rename_i h32
      split at h
      · omega
      · rename_i hany
        refine ⟨by omega, fun p hp => ?_⟩
        rw [List.any_eq_true] at hany
        refine ⟨Int.not_lt.1 fun hl => hany ⟨p, hp, by simp [hl]⟩, Int.not_lt.1 fun hl => hany ⟨p, hp, by simp [hl]⟩⟩

/-- What was written, with anything behind, is read. -/
theorem read_back {mi mk : Int} {l : List Chg} (h : chkI mi mk l = 0) (hb : ∀ p ∈ l, p.1.length ≤ 1048576 ∧ p.2.length ≤ 1048576) (more : List Int) : readS mi mk (writeTo [] l l.length ++ more) = (l, more, 0) := by
  obtain ⟨h32, hp⟩ := chk_zero h
  have e : writeTo [] l l.length ++ more = uintN l.length ++ (flatB l ++ more) := by unfold writeTo flatB; rw [List.take_length]; simp
  have hu := uintN_read l.length (by omega) 32 (by omega) (flatB l ++ more)
  have hall : rdAll mi mk (writeTo [] l l.length ++ more) = (l, more, 0) := by
    unfold rdAll rdStart
    rw [e, hu]
    show rdN mi mk (l.length : Int).toNat ([], flatB l ++ more, 0) = _
    rw [Int.toNat_natCast, rdN_read mi mk l more (fun p hq => ⟨(hp p hq).1, (hp p hq).2, by have := (hb p hq).1; omega, by have := (hb p hq).2; omega⟩) l.length (Nat.le_refl _)]
    simp [flatB]
  unfold readS
  rw [hall]
  rfl

theorem flatB_len : ∀ (l : List Chg), (∀ p ∈ l, p.1.length ≤ 1048576 ∧ p.2.length ≤ 1048576) → (flatB l).length ≤ l.length * 2097172
  | [], _ => by simp [flatB]
  | p :: l, h => by
    have h1 := h p (by simp)
    have h2 := flatB_len l (fun q hq => h q (by simp [hq]))
    have l1 : (bytesI p.1).length ≤ p.1.length + 9 := by
      have := (width_spec p.1.length (by omega)).1
      unfold bytesI uintN; rw [List.length_append, List.length_cons, beI_len]; omega
    have l2 : (bytesI p.2).length ≤ p.2.length + 9 := by
      have := (width_spec p.2.length (by omega)).1
      unfold bytesI uintN; rw [List.length_append, List.length_cons, beI_len]; omega
    have e : flatB (p :: l) = (bytesI p.1 ++ bytesI p.2) ++ flatB l := by simp [flatB]
    rw [e, List.length_append, List.length_append, List.length_cons]; omega
theorem writeTo_len (bs : List Int) (l : List Chg) (hl : l.length ≤ 40) (h : ∀ p ∈ l, p.1.length ≤ 1048576 ∧ p.2.length ≤ 1048576) : (writeTo bs l l.length).length ≤ bs.length + 83886889 := by
  have h1 := flatB_len l h
  have h2 := (width_spec l.length (by omega)).1
  have e : writeTo bs l l.length = bs ++ (uintN l.length ++ flatB l) := by unfold writeTo flatB; rw [List.take_length]; simp
  rw [e, List.length_append, List.length_append]
  have h3 : (uintN l.length).length ≤ 9 := by unfold uintN; rw [List.length_cons, beI_len]; omega
  omega
theorem uintN_isB (m : Nat) (h : m ≤ 4611686018427387904) : IsB (uintN m) := by
  intro x hx
  have := (width_spec m h).1
  rcases List.mem_cons.1 hx with rfl | hx
  · omega
  · exact beI_isB _ _ _ x hx
theorem writeTo_isB (bs : List Int) (l : List Chg) (hB : IsB bs) (hl : l.length ≤ 40) (hb : ∀ p ∈ l, p.1.length ≤ 1048576 ∧ p.2.length ≤ 1048576) (h : ∀ p ∈ l, IsB p.1 ∧ IsB p.2) : IsB (writeTo bs l l.length) := by
  unfold writeTo
  intro x hx
  rw [List.take_length] at hx
  simp only [List.mem_append, List.mem_flatMap] at hx
  rcases hx with (hx | hx) | ⟨p, hp, hx⟩
  · exact hB x hx
  · exact uintN_isB _ (by omega) x hx
  · have h1 := h p hp
    have h2 := hb p hp
    unfold bytesI at hx
    simp only [List.mem_append] at hx
    rcases hx with (hx | hx) | (hx | hx)
    · exact uintN_isB _ (by omega) x hx
    · exact h1.1 x hx
    · exact uintN_isB _ (by omega) x hx
    · exact h1.2 x hx

end Go.Proofs.Ytpdajglcpkfonaa
