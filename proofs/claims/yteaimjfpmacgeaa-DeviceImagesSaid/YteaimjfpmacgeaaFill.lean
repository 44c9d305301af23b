/- A sector built of two texts, and a row of one sector: which cells it consists of. Conditions: none. -/
import Derived.Test.YteaimjfpmacgeaaDvY
import Derived.Great.BuildSlice
namespace Go.Proofs.Yteaimjfpmacgeaa
open Go.RowKit
set_option linter.unusedVariables false

theorem place_get (off : Nat) : ∀ (cs : List Value) (j : Nat) (A : Array Value) (k : Nat), k < A.size →
    ((cs.zipIdx j).foldl (fun (a : Array Value) (p : Value × Nat) => a.setIfInBounds (off + p.2) p.1) A)[k]? = if off + j ≤ k ∧ k < off + j + cs.length then cs[k - (off + j)]? else A[k]?
  | [], j, A, k, h => by
    simp only [List.zipIdx_nil, List.foldl_nil, List.length_nil]
    rw [if_neg (by omega)]
  | c :: cs, j, A, k, h => by
    rw [List.zipIdx_cons, List.foldl_cons, place_get off cs (j + 1) _ k (by simpa using h)]
    by_cases h1 : k = off + j
    · subst h1
      rw [if_neg (by omega), if_pos (by simp), Array.getElem?_setIfInBounds_self_of_lt h]
      simp
    · rw [Array.getElem?_setIfInBounds_ne (fun q => h1 q.symm)]
      by_cases h2 : off + j ≤ k ∧ k < off + j + (c :: cs).length
      · rw [if_pos h2, if_pos (by simp at h2; omega), show k - (off + j) = (k - (off + (j + 1))) + 1 by omega, List.getElem?_cons_succ]
      · rw [if_neg h2, if_neg (by simp at h2; omega)]
theorem place_size (off : Nat) : ∀ (cs : List Value) (j : Nat) (A : Array Value), ((cs.zipIdx j).foldl (fun (a : Array Value) (p : Value × Nat) => a.setIfInBounds (off + p.2) p.1) A).size = A.size
  | [], j, A => rfl
  | c :: cs, j, A => by rw [List.zipIdx_cons, List.foldl_cons, place_size off cs]; simp
def putAt (off : Nat) (a c : Array Value) : Array Value := a.zipIdx.foldl (fun cs (p : Value × Nat) => cs.setIfInBounds (off + p.2) p.1) c
theorem putAt_list (off : Nat) (a c : Array Value) : putAt off a c = (a.toList.zipIdx 0).foldl (fun (a : Array Value) (p : Value × Nat) => a.setIfInBounds (off + p.2) p.1) c := by
  unfold putAt
  rw [← Array.foldl_toList, Array.toList_zipIdx]
theorem putAt_get (off : Nat) (a c : Array Value) (k : Nat) (h : k < c.size) : (putAt off a c)[k]? = if off ≤ k ∧ k < off + a.size then a[k - off]? else c[k]? := by
  rw [putAt_list, place_get off _ 0 c k h]
  simp only [Nat.add_zero, Array.length_toList, Array.getElem?_toList]
theorem putAt_size (off : Nat) (a c : Array Value) : (putAt off a c).size = c.size := by rw [putAt_list, place_size]
theorem fill_one {place : Nat → Option (Nat × Nat)} {cells : Array Value} {i off size : Nat} {v : Value} (hp : place i = some (off, size)) (hv : v.cells.size = size) (hb : off + size ≤ cells.size) (rest : List (Nat × Value)) :
    Instr.fill place cells ((i, v) :: rest) = Instr.fill place (putAt off v.cells cells) rest := by
  rw [Instr.fill, hp]
  simp only
  rw [if_neg (by simp [hv]; omega)]
  rfl

def secArr (s : Sec) : Array Value := (secCells s).toArray
theorem secArr_size {s : Sec} (h : s.now.length = 64 ∧ s.kept.length = 64) : (secArr s).size = 129 := by simp [secArr, secCells_len h]
theorem zeroSC_size : zeroSC.size = 129 := by simp [zeroSC]
theorem zeroSC_last : zeroSC[128]? = some (.bool false) := by kernel_rfl
theorem sec_put (p : List Int) (hp : p.length = 64) : putAt 64 (p.map (Value.int .u8)).toArray (putAt 0 (p.map (Value.int .u8)).toArray zeroSC) = secArr ⟨p, p, false⟩ := by
  have hl : (⟨p, p, false⟩ : Sec).now.length = 64 ∧ (⟨p, p, false⟩ : Sec).kept.length = 64 := ⟨hp, hp⟩
  apply Array.ext_getElem?
  intro k
  by_cases hk : k < 129
  · rw [putAt_get _ _ _ _ (by rw [putAt_size, zeroSC_size]; exact hk), putAt_get _ _ _ _ (by rw [zeroSC_size]; exact hk)]
    simp only [List.size_toArray, List.length_map, hp, Nat.zero_le, true_and, Nat.zero_add, Nat.sub_zero]
    unfold secArr
    simp only [List.getElem?_toArray]
    by_cases h1 : k < 64
    · rw [if_neg (by omega), if_pos h1, secCells_now hl h1]
    · by_cases h2 : k < 128
      · rw [if_pos (by omega)]
        obtain ⟨r, rfl⟩ : ∃ r, k = 64 + r := ⟨k - 64, by omega⟩
        rw [secCells_kept hl (by omega), show 64 + r - 64 = r by omega]
      · obtain rfl : k = 128 := by omega
        rw [if_neg (by omega), if_neg (by omega), secCells_waits hl]
        exact zeroSC_last
  · rw [Array.getElem?_eq_none (by rw [putAt_size, putAt_size, zeroSC_size]; omega), Array.getElem?_eq_none (by rw [secArr_size hl]; omega)]
theorem whole_put (a c : Array Value) (h : a.size = c.size) : putAt 0 a c = a := by
  apply Array.ext_getElem?
  intro k
  by_cases hk : k < c.size
  · rw [putAt_get _ _ _ _ hk, if_pos (by omega), Nat.sub_zero]
  · rw [Array.getElem?_eq_none (by rw [putAt_size]; omega), Array.getElem?_eq_none (by omega)]

theorem built_sec0 (v : Value) : Try.prog.built 81 [(0, v), (1, v)] = Instr.fill ([(0, 64), (64, 64), (128, 1)].toArray[·]?) zeroSC [(0, v), (1, v)] := by kernel_rfl
theorem built_sec (p : List Int) (hp : p.length = 64) : Try.prog.built 81 [(0, .agg (p.map (Value.int .u8)).toArray), (1, .agg (p.map (Value.int .u8)).toArray)] = some (secArr ⟨p, p, false⟩) := by
  have hs : (Value.agg (p.map (Value.int .u8)).toArray).cells.size = 64 := by show (p.map (Value.int .u8)).toArray.size = 64; simp [hp]
  rw [built_sec0, fill_one (off := 0) (size := 64) rfl hs (by rw [zeroSC_size]; omega), fill_one (off := 64) (size := 64) rfl hs (by rw [putAt_size, zeroSC_size]; omega)]
  show some _ = _
  rw [← sec_put p hp]
  rfl
theorem fill_row (s : Sec) (h : s.now.length = 64 ∧ s.kept.length = 64) (n : Nat) (hn : n = 129) :
    Instr.fill (fun i => some (i * n, n)) ((Array.range (1 * n)).map ((Value.agg zeroSC).cells[· % (Value.agg zeroSC).cells.size]!)) [(0, .agg (secArr s))] = some (secArr s) := by
  subst hn
  have hs : (Value.agg (secArr s)).cells.size = 129 := secArr_size h
  rw [fill_one (off := 0) (size := 129) (by simp) hs (by simp)]
  show some _ = _
  rw [whole_put _ _ (by rw [hs]; simp)]
  rfl

end Go.Proofs.Yteaimjfpmacgeaa
