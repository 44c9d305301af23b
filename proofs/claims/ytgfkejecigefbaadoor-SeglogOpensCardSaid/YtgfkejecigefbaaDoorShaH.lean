
/- Plain laws: the reference's words are the program's. -/
import Derived.Test.YtgfkejecigefbaaDoorShaG
namespace Go.Proofs.YtgfkejecigefbaaDoor
open Go.RowKit
set_option linter.unusedVariables false

def bv (x : Int) : BitVec 32 := BitVec.ofInt 32 x

theorem wrap_bv (b : BitVec 32) : IntKind.u32.wrap (b.toNat : Int) = (b.toNat : Int) := by
  have := b.isLt
  rw [IntKind.wrap_u32]; omega
theorem bits_and (a b : Int) : bits .and .u32 a b = ((bv a &&& bv b).toNat : Int) := wrap_bv _
theorem bits_or (a b : Int) : bits .or .u32 a b = ((bv a ||| bv b).toNat : Int) := wrap_bv _
theorem bits_xor (a b : Int) : bits .xor .u32 a b = ((bv a ^^^ bv b).toNat : Int) := wrap_bv _
theorem bv_toNat (b : BitVec 32) : bv (b.toNat : Int) = b := by unfold bv; simp
theorem bv_max : bv (if IntKind.u32.signed = true then -1 else IntKind.u32.max) = BitVec.allOnes 32 := by decide

theorem or_comm32 (a b : Int) : bits .or .u32 a b = bits .or .u32 b a := by rw [bits_or, bits_or, BitVec.or_comm]

theorem right_rotl (x n : Int) : rightI x n = rotl x (32 - n) := by
  unfold rightI rotl
  rw [or_comm32, show (32 : Int) - (32 - n) = n by omega]

theorem sigR_eq (x a b c : Int) : sigR x a b c = sigmaI x a b c := by unfold sigR sigmaI; rw [right_rotl, right_rotl, right_rotl]

theorem chR_eq (e f g : Int) : chR e f g = bits .xor .u32 (bits .and .u32 e (bits .xor .u32 f g)) g := by
  unfold chR
  simp only [bits_and, bits_xor, bv_toNat, bv_max]
  congr 2
  apply BitVec.eq_of_getLsbD_eq
  intro i hi
  simp only [BitVec.getLsbD_xor, BitVec.getLsbD_and, BitVec.getLsbD_allOnes, hi, decide_true]
  cases (bv e).getLsbD i <;> cases (bv f).getLsbD i <;> cases (bv g).getLsbD i <;> rfl

theorem majR_eq (a b c : Int) : majR a b c = bits .or .u32 (bits .and .u32 a (bits .or .u32 b c)) (bits .and .u32 b c) := by
  unfold majR
  simp only [bits_and, bits_xor, bits_or, bv_toNat]
  congr 2
  apply BitVec.eq_of_getLsbD_eq
  intro i hi
  simp only [BitVec.getLsbD_xor, BitVec.getLsbD_and, BitVec.getLsbD_or]
  cases (bv a).getLsbD i <;> cases (bv b).getLsbD i <;> cases (bv c).getLsbD i <;> rfl

/-- A byte behind a number shifted by eight. -/
theorem or_byte (s b : Int) (h0 : 0 ≤ s) (h1 : s < 16777216) (hb0 : 0 ≤ b) (hb1 : b ≤ 255) : bits .or .u32 (s * 256 % 4294967296) b = s * 256 + b := by
  obtain ⟨m, rfl⟩ : ∃ m : Nat, s = m := ⟨s.toNat, by omega⟩
  obtain ⟨k, rfl⟩ : ∃ k : Nat, b = k := ⟨b.toNat, by omega⟩
  rw [bits_or]
  have e1 : bv ((m : Int) * 256 % 4294967296) = BitVec.ofNat 32 (m * 256) := by
    unfold bv
    rw [show (m : Int) * 256 % 4294967296 = ((m * 256 : Nat) : Int) by omega]
    exact BitVec.ofInt_natCast _ _
  have e2 : bv (k : Int) = BitVec.ofNat 32 k := BitVec.ofInt_natCast _ _
  rw [e1, e2, BitVec.toNat_or, BitVec.toNat_ofNat, BitVec.toNat_ofNat, Nat.mod_eq_of_lt (by omega), Nat.mod_eq_of_lt (by omega)]
  have h := Nat.shiftLeft_add_eq_or_of_lt (show k < 2 ^ 8 by omega) m
  rw [Nat.shiftLeft_eq] at h
  rw [← h]
  omega

theorem schedA_word (bs : List Int) (hB : ∀ j, 0 ≤ bs.getD j 0 ∧ bs.getD j 0 ≤ 255) (j : Nat) : ∀ i, i ≤ 64 →
    schedA bs i j = (if i ≤ 4 * j then 0 else if i = 4 * j + 1 then bs.getD (4 * j) 0 else if i = 4 * j + 2 then bs.getD (4 * j) 0 * 256 + bs.getD (4 * j + 1) 0 else if i = 4 * j + 3 then (bs.getD (4 * j) 0 * 256 + bs.getD (4 * j + 1) 0) * 256 + bs.getD (4 * j + 2) 0 else ((bs.getD (4 * j) 0 * 256 + bs.getD (4 * j + 1) 0) * 256 + bs.getD (4 * j + 2) 0) * 256 + bs.getD (4 * j + 3) 0) := by
  intro i hi
  have b0 := hB (4 * j)
  have b1 := hB (4 * j + 1)
  have b2 := hB (4 * j + 2)
  have b3 := hB (4 * j + 3)
  induction i with
  | zero => simp [schedA]
  | succ i ih =>
    have ih := ih (by omega)
    simp only [schedA]
    by_cases h : j = i / 4
    · rw [if_pos h]
      rw [← h, ih]
      have hx : i = 4 * j ∨ i = 4 * j + 1 ∨ i = 4 * j + 2 ∨ i = 4 * j + 3 := by omega
      rcases hx with rfl | rfl | rfl | rfl
      · rw [if_pos (by omega), if_neg (by omega), if_pos (by omega), or_byte _ _ (by omega) (by omega) (by omega) (by omega)]; omega
      · rw [if_neg (by omega), if_pos (by omega), if_neg (by omega), if_neg (by omega), if_pos (by omega), or_byte _ _ (by omega) (by omega) (by omega) (by omega)]
      · rw [if_neg (by omega), if_neg (by omega), if_pos (by omega), if_neg (by omega), if_neg (by omega), if_neg (by omega), if_pos (by omega), or_byte _ _ (by omega) (by omega) (by omega) (by omega)]
      · rw [if_neg (by omega), if_neg (by omega), if_neg (by omega), if_pos (by omega), if_neg (by omega), if_neg (by omega), if_neg (by omega), if_neg (by omega), or_byte _ _ (by omega) (by omega) (by omega) (by omega)]
    · rw [if_neg h, ih]
      by_cases h2 : i ≤ 4 * j
      · rw [if_pos h2, if_pos (by omega)]
      · rw [if_neg h2, if_neg (by omega), if_neg (by omega), if_neg (by omega), if_neg (by omega), if_neg (by omega), if_neg (by omega), if_neg (by omega)]

theorem word_sched (bs : List Int) (hB : ∀ j, 0 ≤ bs.getD j 0 ∧ bs.getD j 0 ≤ 255) (j : Nat) (hj : j < 16) : wordI (bs.drop (4 * j)) = schedA bs 64 j := by
  rw [schedA_word bs hB j 64 (by omega), if_neg (by omega), if_neg (by omega), if_neg (by omega), if_neg (by omega)]
  unfold wordI
  rw [getD_drop, getD_drop, getD_drop, getD_drop, Nat.add_zero]
  have b0 := hB (4 * j)
  have b1 := hB (4 * j + 1)
  have b2 := hB (4 * j + 2)
  have b3 := hB (4 * j + 3)
  omega

theorem schedB_last (bs : List Int) (i j : Nat) (h : i ≤ j) (hj : j ≤ 64) (k : Nat) (hk : k < i) : schedB bs j k = schedB bs i k := by
  induction j with
  | zero => obtain rfl : i = 0 := by omega
            rfl
  | succ j ih =>
    by_cases he : i = j + 1
    · subst he; rfl
    · rw [← ih (by omega) (by omega)]
      simp only [schedB]
      rw [if_neg (by omega)]

/-- The schedule's words, as the reference reckons them. -/
theorem sched_lo (bs : List Int) (hB : ∀ j, 0 ≤ bs.getD j 0 ∧ bs.getD j 0 ≤ 255) (j : Nat) (hj : j < 16) : schedB bs 64 j = wordI (bs.drop (4 * j)) := by
  rw [word_sched bs hB j hj, schedB_last bs 16 64 (by omega) (by omega) j (by omega), schedB_16 bs 16 (by omega)]

theorem sched_hi (bs : List Int) (i : Nat) (h16 : 16 ≤ i) (hi : i < 64) :
    schedB bs 64 i = (((schedB bs 64 (i - 16) + bits .xor .u32 (bits .xor .u32 (rightI (schedB bs 64 (i - 15)) 7) (rightI (schedB bs 64 (i - 15)) 18)) (schedB bs 64 (i - 15) / 8)) % 4294967296 + schedB bs 64 (i - 7)) % 4294967296 + bits .xor .u32 (bits .xor .u32 (rightI (schedB bs 64 (i - 2)) 17) (rightI (schedB bs 64 (i - 2)) 19)) (schedB bs 64 (i - 2) / 1024)) % 4294967296 := by
  rw [schedB_last bs (i + 1) 64 (by omega) (by omega) i (by omega), schedB_succ bs i h16 i, if_pos rfl]
  rw [schedB_last bs i 64 (by omega) (by omega) (i - 16) (by omega), schedB_last bs i 64 (by omega) (by omega) (i - 15) (by omega), schedB_last bs i 64 (by omega) (by omega) (i - 7) (by omega), schedB_last bs i 64 (by omega) (by omega) (i - 2) (by omega)]
  have e1 : ∀ x, bits .xor .u32 (bits .xor .u32 (rightI x 7) (rightI x 18)) (x / 8) = gammaI x 7 18 3 := fun x => by unfold gammaI; rw [right_rotl, right_rotl]; rfl
  have e2 : ∀ x, bits .xor .u32 (bits .xor .u32 (rightI x 17) (rightI x 19)) (x / 1024) = gammaI x 17 19 10 := fun x => by unfold gammaI; rw [right_rotl, right_rotl]; rfl
  rw [e1, e2]
  omega

theorem tR_eq (f : Nat → Int) (ad wd : Int) : tR (f 4) (f 5) (f 6) (f 7) ((ad + wd) % 4294967296) = tI f ad wd := by
  unfold tR tI; rw [sigR_eq, chR_eq]; omega

theorem rN0_eq (f : Nat → Int) (ad wd : Int) : rN0 (f 0) (f 1) (f 2) (f 4) (f 5) (f 6) (f 7) ((ad + wd) % 4294967296) = roundI f ad wd 0 := by
  show _ = (tI f ad wd + uSha f) % 4294967296
  unfold rN0 uSha; rw [tR_eq, sigR_eq, majR_eq]; omega
theorem rN4_eq (f : Nat → Int) (ad wd : Int) : rN4 (f 3) (f 4) (f 5) (f 6) (f 7) ((ad + wd) % 4294967296) = roundI f ad wd 4 := by
  show _ = (f 3 + tI f ad wd) % 4294967296
  unfold rN4; rw [tR_eq]

/-- The reference's padded text, with z zeros and k bytes of the length. -/
def refText (bs : List Int) (z k : Nat) : List Int := bs ++ ([128] ++ (List.replicate z 0 ++ (List.range k).map fun i => (lenq bs.length (7 - i) : Int) % 256))

theorem refText_len (bs : List Int) (z k : Nat) : (refText bs z k).length = bs.length + 1 + z + k := by simp [refText]; omega

theorem refText_pad (bs : List Int) (z : Nat) (hz : bs.length + 1 + z + 8 = 64 * blk bs.length) : refText bs z 8 = padI bs := by
  have hl : (padI bs).length = 64 * blk bs.length := by unfold padI finI blk; simp; omega
  apply List.ext_getElem?
  intro i
  rcases Nat.lt_or_ge i (64 * blk bs.length) with hi | hi
  · have hg : ∀ (l : List Int), i < l.length → l[i]? = some (l.getD i 0) := fun l h => by rw [List.getD_eq_getElem?_getD, List.getElem?_eq_getElem h]; rfl
    rw [hg _ (by rw [refText_len]; omega), hg _ (by omega)]
    congr 1
    by_cases h1 : i < 64 * (bs.length / 64)
    · rw [padI_lo bs i h1]
      unfold refText
      rw [List.getD_eq_getElem?_getD, List.getElem?_append_left (by omega), ← List.getD_eq_getElem?_getD]
    · obtain ⟨j, rfl⟩ : ∃ j, i = 64 * (bs.length / 64) + j := ⟨i - 64 * (bs.length / 64), by omega⟩
      have hbl : bs.length / 64 < blk bs.length := by unfold blk; omega
      rw [padI_hi bs j (by omega)]
      unfold refText
      rw [List.getD_eq_getElem?_getD]
      by_cases h2 : 64 * (bs.length / 64) + j < bs.length
      · rw [List.getElem?_append_left h2, ← List.getD_eq_getElem?_getD, tlK_out _ _ _ _ (by omega), if_neg (by omega)]
        unfold tl0
        rw [if_pos (by omega)]
      · rw [List.getElem?_append_right (by omega)]
        by_cases h3 : j = bs.length % 64
        · rw [tlK_out _ _ _ _ (by omega), if_pos h3, show 64 * (bs.length / 64) + j - bs.length = 0 by omega]; rfl
        · rw [List.getElem?_append_right (by simp; omega)]
          simp only [List.length_cons, List.length_nil]
          by_cases h4 : j < 64 * (blk bs.length - bs.length / 64) - 8
          · rw [tlK_out _ _ _ _ (by omega), if_neg h3, List.getElem?_append_left (by simp; omega), List.getElem?_replicate, if_pos (by omega)]
            unfold tl0
            rw [if_neg (by omega)]; rfl
          · rw [tlK_in _ _ _ _ (by omega), List.getElem?_append_right (by simp; omega), List.length_replicate, List.getElem?_map, List.getElem?_range (by omega)]
            show ((lenq bs.length _ : Nat) : Int) % 256 = _
            rw [show 7 - (64 * (bs.length / 64) + j - bs.length - (0 + 1) - z) = 64 * (blk bs.length - bs.length / 64) - 1 - j by omega]
  · rw [List.getElem?_eq_none (by rw [refText_len]; omega), List.getElem?_eq_none (by omega)]

end Go.Proofs.YtgfkejecigefbaaDoor
