
/- The walks of sha.Blocks and sha.Sum. -/
import Derived.Test.YtgfkejecigefbaaDoorShaC
import Derived.Test.YtgfkejecigefbaaDoorLib2
import Derived.Laws.CopyOwn
namespace Go.Proofs.YtgfkejecigefbaaDoor
open Go.RowKit
set_option linter.unusedVariables false

/-- How many blocks a text of n bytes takes. -/
def blk (n : Nat) : Nat := (n + 8) / 64 + 1

theorem blocks_any (n : Nat) (h : n ≤ 9223372036854770000) (w : World) :
    Calls Tryd.prog 85 #[.int .i64 n] w fun e w' => e = .returned (.int .i64 (blk n)) ∧ w = w' := by
  by_cases h1 : 56 ≤ n % 64
  · go_enter Tryd.func85, Tryd.ntmps85
    go_wp2
    go_ret
    exact ⟨ret_int (by unfold blk; omega), rfl⟩
  · go_enter Tryd.func85, Tryd.ntmps85
    go_wp2
    go_ret
    exact ⟨ret_int (by unfold blk; omega), rfl⟩

def firstI : List Int := [1779033703, 3144134277, 1013904242, 2773480762, 1359893119, 2600822924, 528734635, 1541459225]

theorem firstI_at (k : Nat) : 0 ≤ firstI.getD k 0 ∧ firstI.getD k 0 ≤ 4294967295 := by
  have hb : ∀ x ∈ firstI, 0 ≤ x ∧ x ≤ 4294967295 := by decide
  rw [List.getD_eq_getElem?_getD]
  rcases Nat.lt_or_ge k firstI.length with h | h
  · rw [List.getElem?_eq_getElem h]; exact hb _ (List.getElem_mem h)
  · rw [List.getElem?_eq_none h]; simp

/-- The sums behind the first m blocks. -/
def stI (bs : List Int) : Nat → Nat → Int
  | 0 => fun j => firstI.getD j 0
  | m + 1 => takeI (stI bs m) (bs.drop (64 * m))

theorem takeI_bd (f : Nat → Int) (bs : List Int) (j : Nat) : 0 ≤ takeI f bs j ∧ takeI f bs j ≤ 4294967295 := by unfold takeI; omega
theorem stI_bd (bs : List Int) (m j : Nat) : 0 ≤ stI bs m j ∧ stI bs m j ≤ 4294967295 := by
  cases m with
  | zero => exact firstI_at j
  | succ m => exact takeI_bd _ _ j

def lenOf : Value → Int | .slice _ n _ => n | _ => 0

def zeros128 : Array Value := Array.replicate 128 (.int .u8 0)
def zl128 : List Value := List.replicate 128 (.int .u8 0)
theorem zero128 (w : World) : (zeroValue 141).run Tryd.prog w = .ok (.agg zeros128) w := by kernel_rfl

/-- The last bytes, with zeros behind them. -/
def tl0 (bs : List Int) (j : Nat) : Int := if j < bs.length % 64 then bs.getD (64 * (bs.length / 64) + j) 0 else 0

theorem splice_row (bs : List Int) (X1 : List Value) (h : X1 = (bs.drop (64 * (bs.length / 64))).map (Value.int .u8)) :
    (splice zl128 0 X1).toArray.size = 128 ∧ ∀ i, i < 128 → (splice zl128 0 X1).toArray[i]? = some (.int .u8 (tl0 bs i)) := by
  have hl : X1.length = bs.length % 64 := by rw [h]; simp; omega
  have hz : zl128.length = 128 := by unfold zl128; simp
  have hs : (splice zl128 0 X1).length = 128 := by rw [length_splice _ _ _ (by omega), hz]
  refine ⟨by simpa using hs, fun i hi => ?_⟩
  rw [List.getElem?_toArray]
  unfold splice
  simp only [List.take_zero, List.nil_append]
  by_cases h1 : i < bs.length % 64
  · rw [List.getElem?_append_left (by omega), h, List.getElem?_map, List.getElem?_drop, List.getElem?_eq_getElem (by omega)]
    unfold tl0
    rw [if_pos h1, List.getD_eq_getElem?_getD, List.getElem?_eq_getElem (by omega)]
    rfl
  · rw [List.getElem?_append_right (by omega), List.getElem?_drop]
    unfold tl0 zl128
    rw [if_neg h1, List.getElem?_replicate, if_pos (by omega)]

/-- The number of bits, without its last k bytes. -/
def lenq (n k : Nat) : Nat := 8 * n / 256 ^ k

theorem lenq_succ (n k : Nat) : lenq n (k + 1) = lenq n k / 256 := by
  unfold lenq; rw [Nat.pow_succ, Nat.div_div_eq_div_mul]

theorem lenq_lt (n k : Nat) (h : n ≤ 281474976710656) : lenq n k ≤ 2251799813685248 := by
  unfold lenq
  exact Nat.le_trans (Nat.div_le_self _ _) (by omega)

theorem lenq_mono (n k j : Nat) (h : k ≤ j) : lenq n j ≤ lenq n k := by
  obtain ⟨d, rfl⟩ : ∃ d, j = k + d := ⟨j - k, by omega⟩
  clear h
  induction d with
  | zero => exact Nat.le_refl _
  | succ d ih => rw [← Nat.add_assoc, lenq_succ]; exact Nat.le_trans (Nat.div_le_self _ _) ih

theorem lenq_7 (n k : Nat) (h : n ≤ 281474976710656) (hk : 7 ≤ k) : lenq n k = 0 := by
  have h7 : lenq n 7 = 0 := by unfold lenq; exact Nat.div_eq_of_lt (by omega)
  have := lenq_mono n 7 k hk
  omega

/-- The last bytes, with the end's mark, zeros, and the last k bytes of the number of bits at place E. -/
def tlK (bs : List Int) (E k j : Nat) : Int := if E - k ≤ j ∧ j < E then (lenq bs.length (E - 1 - j) : Int) % 256 else if j = bs.length % 64 then 128 else tl0 bs j

theorem tlK_in (bs : List Int) (E k j : Nat) (h : E - k ≤ j ∧ j < E) : tlK bs E k j = (lenq bs.length (E - 1 - j) : Int) % 256 := by
  unfold tlK; rw [if_pos h]
theorem tlK_out (bs : List Int) (E k j : Nat) (h : ¬ (E - k ≤ j ∧ j < E)) : tlK bs E k j = if j = bs.length % 64 then 128 else tl0 bs j := by
  unfold tlK; rw [if_neg h]

theorem tlK_0 (bs : List Int) (E j : Nat) (hj : j < 128) : (if j = bs.length % 64 then Value.int .u8 128 else .int .u8 (tl0 bs j)) = .int .u8 (tlK bs E 0 j) := by
  rw [tlK_out bs E 0 j (by omega)]
  by_cases h : j = bs.length % 64
  · rw [if_pos h, if_pos h]
  · rw [if_neg h, if_neg h]

theorem tlK_succ (bs : List Int) (E k p j : Nat) (hp : p = E - (k + 1)) (hE : k + 1 ≤ E) : (if j = p then Value.int .u8 ((lenq bs.length k : Int) % 256) else .int .u8 (tlK bs E k j)) = .int .u8 (tlK bs E (k + 1) j) := by
  by_cases h : j = p
  · rw [if_pos h, tlK_in bs E (k + 1) j (by omega), show E - 1 - j = k by omega]
  · rw [if_neg h]
    by_cases h2 : E - k ≤ j ∧ j < E
    · rw [tlK_in bs E (k + 1) j (by omega), tlK_in bs E k j h2]
    · rw [tlK_out bs E (k + 1) j (by omega), tlK_out bs E k j h2]

/-- Nothing of the number is left: eight bytes of it are there. -/
theorem tlK_8 (bs : List Int) (E k j : Nat) (hn : bs.length ≤ 281474976710656) (hk : k ≤ 8) (h0 : lenq bs.length k = 0) (hE : E = 64 ∧ bs.length % 64 < 56 ∨ E = 128) : tlK bs E k j = tlK bs E 8 j := by
  by_cases h : E - k ≤ j ∧ j < E
  · rw [tlK_in bs E k j h, tlK_in bs E 8 j (by omega)]
  · by_cases h2 : E - 8 ≤ j ∧ j < E
    · have h3 := lenq_mono bs.length k (E - 1 - j) (by omega)
      rw [tlK_out bs E k j h, tlK_in bs E 8 j h2, show lenq bs.length (E - 1 - j) = 0 by omega, if_neg (by omega)]
      unfold tl0
      rw [if_neg (by omega)]; rfl
    · rw [tlK_out bs E k j h, tlK_out bs E 8 j h2]

theorem tl0_bd (bs : List Int) (hB : ∀ j, 0 ≤ bs.getD j 0 ∧ bs.getD j 0 ≤ 255) (j : Nat) : 0 ≤ tl0 bs j ∧ tl0 bs j ≤ 255 := by
  unfold tl0; split
  · exact hB _
  · omega
theorem tlK_bd (bs : List Int) (hB : ∀ j, 0 ≤ bs.getD j 0 ∧ bs.getD j 0 ≤ 255) (E k j : Nat) : 0 ≤ tlK bs E k j ∧ tlK bs E k j ≤ 255 := by
  have := tl0_bd bs hB j
  unfold tlK; split
  · omega
  · split <;> omega

/-- The last blocks. -/
def finI (bs : List Int) (E : Nat) : List Int := (List.range E).map fun j => tlK bs E 8 j
/-- The padded text. -/
def padI (bs : List Int) : List Int := bs.take (64 * (bs.length / 64)) ++ finI bs (64 * (blk bs.length - bs.length / 64))

theorem schedA_congr {a b : List Int} (h : ∀ j, j < 64 → a.getD j 0 = b.getD j 0) (i : Nat) (hi : i ≤ 64) : schedA a i = schedA b i := by
  induction i with
  | zero => rfl
  | succ i ih =>
    have := ih (by omega)
    funext j
    simp only [schedA]
    rw [this, h i (by omega)]

theorem schedB_congr {a b : List Int} (h : ∀ j, j < 64 → a.getD j 0 = b.getD j 0) (k : Nat) : schedB a k = schedB b k := by
  induction k with
  | zero => funext j; simp only [schedB]; rw [schedA_congr h 64 (Nat.le_refl _)]
  | succ k ih => funext j; simp only [schedB]; rw [ih]

theorem rnds_congr {a b : List Int} (f : Nat → Int) (h : ∀ j, j < 64 → a.getD j 0 = b.getD j 0) (k : Nat) : rnds f a k = rnds f b k := by
  induction k with
  | zero => rfl
  | succ k ih => simp only [rnds]; rw [ih, schedB_congr h]

theorem takeI_congr {a b : List Int} (f : Nat → Int) (h : ∀ j, j < 64 → a.getD j 0 = b.getD j 0) : takeI f a = takeI f b := by
  funext j; unfold takeI; rw [rnds_congr f h]

theorem getD_drop (l : List Int) (i j : Nat) : (l.drop i).getD j 0 = l.getD (i + j) 0 := by
  rw [List.getD_eq_getElem?_getD, List.getElem?_drop, ← List.getD_eq_getElem?_getD]

theorem padI_lo (bs : List Int) (i : Nat) (h : i < 64 * (bs.length / 64)) : (padI bs).getD i 0 = bs.getD i 0 := by
  unfold padI
  rw [List.getD_eq_getElem?_getD, List.getElem?_append_left (by simp; omega), List.getElem?_take, if_pos h, ← List.getD_eq_getElem?_getD]

theorem padI_hi (bs : List Int) (j : Nat) (h : j < 64 * (blk bs.length - bs.length / 64)) : (padI bs).getD (64 * (bs.length / 64) + j) 0 = tlK bs (64 * (blk bs.length - bs.length / 64)) 8 j := by
  have hl : (bs.take (64 * (bs.length / 64))).length = 64 * (bs.length / 64) := by simp; omega
  unfold padI finI
  rw [List.getD_eq_getElem?_getD, List.getElem?_append_right (by omega), hl, Nat.add_sub_cancel_left, List.getElem?_map, List.getElem?_range h]
  rfl

theorem stI_pad (bs : List Int) (m : Nat) (h : m ≤ bs.length / 64) : stI bs m = stI (padI bs) m := by
  induction m with
  | zero => rfl
  | succ m ih =>
    simp only [stI]
    rw [ih (by omega)]
    exact takeI_congr _ fun j hj => by rw [getD_drop, getD_drop, padI_lo bs _ (by omega)]

/-- A slice of a row that is known. -/
theorem Sl.of_row {w : World} {b n off c cap : Nat} {t : TypeId} {k : IntKind} {F : Nat → Int} (h : w.rowIs b t n (fun j => .int k (F j))) (hc : off + c ≤ n) (h1 : c ≤ cap) (h2 : cap ≤ maxLen) :
    Sl w (.slice (some ⟨b, off, none⟩) c cap) (((List.range c).map fun j => F (off + j)).map (Value.int k)) := by
  have hl : (((List.range c).map fun j => F (off + j)).map (Value.int k)).length = c := by simp
  refine ⟨_, cap, by rw [hl], by rw [hl]; exact h1, h2, fun _ => ⟨b, off, rfl, h.lt, fun j u hu => ?_⟩⟩
  have hj : j < c := by
    rcases Nat.lt_or_ge j c with h | h
    · exact h
    · rw [List.getElem?_eq_none (by omega)] at hu; cases hu
  rw [List.getElem?_map, List.getElem?_map, List.getElem?_range hj] at hu
  simp only [Option.map_some, Option.some.injEq] at hu
  rw [← hu]
  exact h.cell (by omega)

theorem last_take (bs : List Int) (E c : Nat) (hE : E = 64 * (blk bs.length - bs.length / 64)) (h : 64 * c + 64 ≤ E) :
    takeI (stI (padI bs) (bs.length / 64 + c)) ((List.range (E - 64 * c)).map fun j => tlK bs E 8 (64 * c + j)) = stI (padI bs) (bs.length / 64 + (c + 1)) := by
  show _ = takeI (stI (padI bs) (bs.length / 64 + c)) ((padI bs).drop (64 * (bs.length / 64 + c)))
  refine takeI_congr _ fun j hj => ?_
  rw [getD_drop, show 64 * (bs.length / 64 + c) + j = 64 * (bs.length / 64) + (64 * c + j) by omega, padI_hi bs _ (by omega), ← hE]
  rw [List.getD_eq_getElem?_getD, List.getElem?_map, List.getElem?_range (by omega)]
  rfl

theorem range_getD_bd (F : Nat → Int) (n : Nat) (h : ∀ j, 0 ≤ F j ∧ F j ≤ 255) (j : Nat) : 0 ≤ ((List.range n).map F).getD j 0 ∧ ((List.range n).map F).getD j 0 ≤ 255 := by
  rw [List.getD_eq_getElem?_getD, List.getElem?_map]
  rcases Nat.lt_or_ge j n with hj | hj
  · rw [List.getElem?_range hj]; exact h j
  · rw [List.getElem?_eq_none (by simpa using hj)]; simp

def outI (f : Nat → Int) (i : Nat) : Int := f (i / 4) / 2 ^ (8 * (3 - i % 4)) % 256
/-- SHA-256, as the program computes it. -/
def sumI (bs : List Int) : List Int := (List.range 32).map (outI (stI (padI bs) (blk bs.length)))

/-- Where the program's own tables lie, and what they hold. -/
structure Tabs (w : World) : Prop where
  lt0 : 1 < w.heap.size
  lt1 : 2 < w.heap.size
  first : ∀ j, j < 8 → w.cell? ⟨1, j, none⟩ = some (.int .u32 (firstI.getD j 0))
  added : ∀ j, j < 64 → w.cell? ⟨2, j, none⟩ = some (.int .u32 (addedI.getD j 0))

theorem Tabs.below {w w' : World} (h : Tabs w) (hb : Below w.heap.size w w') : Tabs w' :=
  ⟨Nat.lt_of_lt_of_le h.lt0 hb.size, Nat.lt_of_lt_of_le h.lt1 hb.size, fun j hj => (hb.cell (p := ⟨1, j, none⟩) h.lt0).trans (h.first j hj), fun j hj => (hb.cell (p := ⟨2, j, none⟩) h.lt1).trans (h.added j hj)⟩

set_option maxHeartbeats 2000000 in
theorem sum_any (v : Value) (bs : List Int) (w : World) (hn : bs.length ≤ 281474976710656) (hB : ∀ j, 0 ≤ bs.getD j 0 ∧ bs.getD j 0 ≤ 255) (hs : Sl w v (bs.map (Value.int .u8))) (ht : Tabs w) :
    Calls Tryd.prog 61 #[v] w fun e w' => ∃ v', e = .returned v' ∧ Sl w' v' ((sumI bs).map (Value.int .u8)) ∧ Below w.heap.size w w' := by
  obtain ⟨ad, cap, rfl, hcl, hcm⟩ : ∃ ad cap, v = .slice ad bs.length cap ∧ bs.length ≤ cap ∧ cap ≤ 9223372036854775807 := by
    obtain ⟨x, y, h1, h2, h3, _⟩ := hs
    simp only [List.length_map] at *
    exact ⟨x, y, h1, h2, h3⟩
  have f0 : w.cell? ⟨1, 0, none⟩ = some (.int .u32 1779033703) := ht.first 0 (by omega)
  have f1 : w.cell? ⟨1, 1, none⟩ = some (.int .u32 3144134277) := ht.first 1 (by omega)
  have f2 : w.cell? ⟨1, 2, none⟩ = some (.int .u32 1013904242) := ht.first 2 (by omega)
  have f3 : w.cell? ⟨1, 3, none⟩ = some (.int .u32 2773480762) := ht.first 3 (by omega)
  have f4 : w.cell? ⟨1, 4, none⟩ = some (.int .u32 1359893119) := ht.first 4 (by omega)
  have f5 : w.cell? ⟨1, 5, none⟩ = some (.int .u32 2600822924) := ht.first 5 (by omega)
  have f6 : w.cell? ⟨1, 6, none⟩ = some (.int .u32 528734635) := ht.first 6 (by omega)
  have f7 : w.cell? ⟨1, 7, none⟩ = some (.int .u32 1541459225) := ht.first 7 (by omega)
  go_enter Tryd.func61, Tryd.ntmps61
  go_wp2
  have hb0 : Below w.heap.size w (w.alloc (.cells #[.int .u32 1779033703, .int .u32 3144134277, .int .u32 1013904242, .int .u32 2773480762, .int .u32 1359893119, .int .u32 2600822924, .int .u32 528734635, .int .u32 1541459225] 139)) := (Below.refl _ _).alloc (Nat.le_refl _) _
  have hr0 : (w.alloc (.cells #[.int .u32 1779033703, .int .u32 3144134277, .int .u32 1013904242, .int .u32 2773480762, .int .u32 1359893119, .int .u32 2600822924, .int .u32 528734635, .int .u32 1541459225] 139)).rowIs w.heap.size 139 8 (fun j => .int .u32 (stI bs 0 j)) := World.rowIs_alloc w _ _ _ (fun i hi => by
    have hi8 : i < 8 := hi
    obtain rfl | rfl | rfl | rfl | rfl | rfl | rfl | rfl : i = 0 ∨ i = 1 ∨ i = 2 ∨ i = 3 ∨ i = 4 ∨ i = 5 ∨ i = 6 ∨ i = 7 := by omega
    all_goals rfl)
  generalize (w.alloc (.cells #[.int .u32 1779033703, .int .u32 3144134277, .int .u32 1013904242, .int .u32 2773480762, .int .u32 1359893119, .int .u32 2600822924, .int .u32 528734635, .int .u32 1541459225] 139)) = w1 at hb0 hr0 ⊢
  have hl1 : w.heap.size < w1.heap.size := hr0.lt
  clear f0 f1 f2 f3 f4 f5 f6 f7
  go_loopw [0] (fun v wr => ∃ m : Nat, 64 * m ≤ bs.length ∧ Sl w v ((bs.drop (64 * m)).map (Value.int .u8)) ∧ wr.rowIs w.heap.size 139 8 (fun j => .int .u32 (stI bs m j)) ∧ Below w.heap.size w wr) (fun v _ => (lenOf v).toNat)
  case atStart => exact ⟨0, by omega, by simpa using hs, hr0, hb0⟩
  case round =>
    clear hr0 hb0 hs
    obtain ⟨m, hm, hs, hr, hbr⟩ := hrel
    have hsz := hbr.size
    have hld : (bs.drop (64 * m)).length = bs.length - 64 * m := by simp
    obtain ⟨ad, cap, rfl, hcl, hcm⟩ : ∃ ad cap, u0 = .slice ad (bs.length - 64 * m) cap ∧ bs.length - 64 * m ≤ cap ∧ cap ≤ 9223372036854775807 := by
      obtain ⟨x, y, h1, h2, h3, _⟩ := hs
      simp only [List.length_map, hld] at *
      exact ⟨x, y, h1, h2, h3⟩
    generalize hL : bs.length - 64 * m = L at *
    by_cases hlt : 64 ≤ L
    · have htw := ht.below hbr
      have hBd : ∀ j, 0 ≤ (bs.drop (64 * m)).getD j 0 ∧ (bs.drop (64 * m)).getD j 0 ≤ 255 := fun j => by
        rw [List.getD_eq_getElem?_getD, List.getElem?_drop, ← List.getD_eq_getElem?_getD]; exact hB _
      have htk := take_any (.slice ad L cap) (bs.drop (64 * m)) w.heap.size (stI bs m) wr (by rw [hld]; exact hlt) hBd (hs.below hbr (Nat.le_refl _)) (stI_bd bs m) hr htw.lt1 (by have := ht.lt1; omega) htw.added
      have HTK := Lib.hid htk
      clear htk hBd
      go_wp2_with fail
      refine HTK.out.mono ?_
      rintro e w2 ⟨rfl, hr2, hg2⟩
      have hb2 : Below w.heap.size w w2 := hbr.grown hg2 hsz (fun k hk => by cases hk; exact Nat.le_refl _)
      clear HTK
      go_wp2
      go_roundw
      case rel =>
        refine ⟨m + 1, by omega, ?_, hr2, hb2⟩
        have := hs.drop 64 (by omega)
        rw [← List.map_drop, List.drop_drop] at this
        rw [show 64 * (m + 1) = 64 * m + 64 by omega]
        exact this
      case measure => simp [lenOf]; omega
    · have hmL : m = bs.length / 64 ∧ L = bs.length % 64 := by omega
      obtain ⟨rfl, rfl⟩ := hmL
      have hz128 := zero128
      have t0 := hs.below hbr (Nat.le_refl _)
      obtain ⟨X1, hX1⟩ : ∃ X1, X1 = (bs.drop (64 * (bs.length / 64))).map (Value.int .u8) := ⟨_, rfl⟩
      have hXl : X1.length = bs.length % 64 := by rw [hX1]; simp; omega
      have HX1 := Lib.hid hX1
      have HXl := Lib.hid hXl
      clear hX1 hXl
      go_wp2_with (with_reducible refine wpList_copy_splice rfl _ _ _ _ rfl 5 Tryd.underlying26 (by kernel_rfl) _ _ _ _ _ _ rfl rfl wr.heap.size 0 zl128 141 ?g1 X1 ?g2 ?g3 ?g4 ?g5 wr.heap.size wr ?g6 (Nat.le_refl _) ?_)
      case g1 => exact heap_alloc_new _ _
      case g2 => rw [HXl.out]; show _ = min _ _; omega
      case g3 =>
        intro hp
        have t1 := t0.below ((Below.refl _ _).alloc (Nat.le_refl _) (.cells zeros128 141)) (Nat.le_refl _)
        rw [← HX1.out] at t1
        obtain ⟨b, off, rfl, hlt3, hc3⟩ := t1.addr hp
        refine ⟨⟨b, off, none⟩, rfl, fun j u hu => ?_⟩
        rw [add_plain0]
        exact hc3 j u hu
      case g4 => rw [HXl.out]; show _ ≤ (List.replicate 128 _).length; simp; omega
      case g5 => intro v hv; rw [HX1.out] at hv; obtain ⟨x, _, rfl⟩ := List.mem_map.1 hv; rfl
      case g6 => exact (Below.refl _ _).alloc (Nat.le_refl _) _
      intro w3 HG hb3
      have hT : w3.rowIs wr.heap.size 141 128 (fun j => .int .u8 (tl0 bs j)) := by
        exact ⟨_, HG.out, (splice_row bs X1 HX1.out).1, (splice_row bs X1 HX1.out).2⟩
      have hr3 : w3.rowIs w.heap.size 139 8 (fun j => .int .u32 (stI bs (bs.length / 64) j)) := hr.of_block (hb3.block _ hr.lt)
      have hb4 : Below w.heap.size w w3 := hbr.trans (hb3.mono hsz)
      have hlt3 : w.heap.size < wr.heap.size := hr.lt
      have c1 : w3.cell? ⟨wr.heap.size, bs.length % 64, none⟩ = some (.int .u8 (tl0 bs (bs.length % 64))) := hT.cell (by omega)
      have z1 : w3.frozen? ⟨wr.heap.size, bs.length % 64, none⟩ = false := hT.frozen _
      rw [HXl.out]
      clear HG HX1 HXl t0 hr hs hbr
      have hlenb : (bs.length : Int) ≤ 281474976710656 := by omega
      have q1 : (bs.length : Int) % 64 < 128 := by omega
      obtain ⟨E, hE⟩ : ∃ E : Nat, E = 64 * (blk bs.length - bs.length / 64) := ⟨_, rfl⟩
      have hblk : blk bs.length = bs.length / 64 + 1 ∧ bs.length % 64 < 56 ∨ blk bs.length = bs.length / 64 + 2 ∧ 56 ≤ bs.length % 64 := by unfold blk; omega
      have e1 : wrap64 (64 * wrap64 ((blk bs.length : Int) - (bs.length : Int) / 64)) = (E : Int) := by unfold wrap64; omega
      have hE0 : (0 : Int) ≤ (E : Int) := by omega
      have hE1 : (E : Int) ≤ 128 := by omega
      have HE := Lib.hid hE
      have HBK := Lib.hid hblk
      clear hE hblk
      go_wp2_with (go_at_call 85; refine (blocks_any _ (by omega) _).mono ?_; rintro e w4 ⟨rfl, rfl⟩)
      have hT5 : (w3.setCell ⟨wr.heap.size, bs.length % 64, none⟩ (.int .u8 128)).rowIs wr.heap.size 141 128 (fun j => .int .u8 (tlK bs E 0 j)) :=
        (hT.set _ _).congr fun j hj => tlK_0 bs E j (by omega)
      have hr5 : (w3.setCell ⟨wr.heap.size, bs.length % 64, none⟩ (.int .u8 128)).rowIs w.heap.size 139 8 (fun j => .int .u32 (stI bs (bs.length / 64) j)) := hr3.setOther (by simp; omega) _
      have hb5 : Below w.heap.size w (w3.setCell ⟨wr.heap.size, bs.length % 64, none⟩ (.int .u8 128)) := hb4.setCell (by simp; omega) _
      generalize (w3.setCell ⟨wr.heap.size, bs.length % 64, none⟩ (.int .u8 128)) = w5 at hT5 hr5 hb5 ⊢
      generalize hTB : wr.heap.size = TB at *
      have hn8 : (bs.length : Int) * 8 = ((lenq bs.length 0 : Nat) : Int) := by simp [lenq]; omega
      rw [hn8]
      clear hT hr3 hb4 hb3 c1 z1 hn8 hTB e1
      obtain ⟨wo, rfl⟩ : ∃ wo : World, wo = wr := ⟨_, rfl⟩
      go_loopw [7, 8] (fun i x wr => ∃ k : Nat, k ≤ 7 ∧ i = .int .i64 ((k : Int) + 1) ∧ x = .int .u64 (lenq bs.length k : Nat) ∧ wr.rowIs TB 141 128 (fun j => .int .u8 (tlK bs E k j)) ∧ wr.rowIs w.heap.size 139 8 (fun j => .int .u32 (stI bs (bs.length / 64) j)) ∧ Below w.heap.size w wr) (fun _ x _ => (intOf x).toNat)
      case atStart => exact ⟨0, by omega, rfl, rfl, hT5, hr5, hb5⟩
      case round =>
        clear hT5 hr5 hb5
        obtain ⟨k, hk, rfl, rfl, hT, hr, hbr⟩ := hrel
        by_cases hx : 0 < lenq bs.length k
        · have hk6 : k ≤ 6 := by
            rcases Nat.lt_or_ge k 7 with h | h
            · omega
            · exact absurd (lenq_7 bs.length k hn h) (by omega)
          obtain ⟨p, hp⟩ : ∃ p : Nat, p = E - (k + 1) := ⟨_, rfl⟩
          have hEE := HE.out
          have hBB := HBK.out
          have e1 : IntKind.i64.wrap ((E : Int) - ((k : Int) + 1)) = (p : Int) := by rw [IntKind.wrap_i64]; omega
          have e2 : wrap64 ((E : Int) - ((k : Int) + 1)) = (p : Int) := by unfold wrap64; omega
          have hpE : (p : Int) < (E : Int) := by omega
          have c1 : wr.cell? ⟨TB, p, none⟩ = some (.int .u8 (tlK bs E k p)) := hT.cell (by omega)
          have z1 : wr.frozen? ⟨TB, p, none⟩ = false := hT.frozen _
          have hq := lenq_succ bs.length k
          have hql := lenq_lt bs.length k hn
          have hTs := hT.set p (.int .u8 ((lenq bs.length k : Int) % 256))
          have hT2 := hTs.congr (g := fun j => .int .u8 (tlK bs E (k + 1) j)) fun j hj => tlK_succ bs E k p j hp (by omega)
          have HX := Lib.hid (And.intro hp (And.intro hEE hBB))
          have HQ := Lib.hid hq
          generalize hL : lenq bs.length k = q at *
          clear hp hEE hBB hTs hq
          go_wp2
          go_roundw
          case rel =>
            obtain ⟨hp, hEE, hBB⟩ := HX.out
            exact ⟨k + 1, by omega, by go_num, by rw [HQ.out]; simp, hT2, hr.setOther (by simp; omega) _, hbr.setCell (by simp; omega) _⟩
          case measure => simp [intOf]; omega
        · have hx0 : lenq bs.length k = 0 := by omega
          have hBB := HBK.out
          have hEE := HE.out
          have hT8 := hT.congr (g := fun j => .int .u8 (tlK bs E 8 j)) fun j hj => by rw [tlK_8 bs E k j hn (by omega) hx0 (by omega)]
          have hr8 := hr
          rw [stI_pad bs _ (Nat.le_refl _)] at hr8
          have hxI : ¬ (0 : Int) < ((lenq bs.length k : Nat) : Int) := by omega
          generalize lenq bs.length k = q at hxI ⊢
          clear hT hr hx hx0 hBB hEE
          have HN := Lib.hid hn
          clear hlenb q1 hn
          go_wp2
          obtain ⟨wo, rfl⟩ : ∃ wo : World, wo = wr := ⟨_, rfl⟩
          go_loopw [6] (fun v wr => ∃ c off cp : Nat, 64 * c ≤ E ∧ v = .slice (some ⟨TB, off, none⟩) (E - 64 * c) cp ∧ cp + 64 * c = 128 ∧ (c = 0 → off = 0) ∧ (c = 1 → off = 64) ∧ wr.rowIs TB 141 128 (fun j => .int .u8 (tlK bs E 8 j)) ∧ wr.rowIs w.heap.size 139 8 (fun j => .int .u32 (stI (padI bs) (bs.length / 64 + c) j)) ∧ Below w.heap.size w wr) (fun v _ => (lenOf v).toNat)
          case atStart => exact ⟨0, 0, 128, by omega, by simp, by omega, fun _ => rfl, by omega, hT8, hr8, hbr⟩
          case round =>
            clear hT8 hr8 hbr
            obtain ⟨c, off, cp, hc, rfl, hcp, ho0, ho1, hT, hr, hbr⟩ := hrel
            have hEE := HE.out
            have hBB := HBK.out
            obtain ⟨L, hL⟩ : ∃ L, L = E - 64 * c := ⟨_, rfl⟩
            rw [← hL]
            obtain rfl | ⟨rfl, hE2⟩ | hfin : c = 0 ∨ (c = 1 ∧ E = 128) ∨ E = 64 * c := by omega
            · obtain rfl : cp = 128 := by omega
              obtain rfl : off = 0 := ho0 rfl
              have hsl : Sl wr (.slice (some ⟨TB, 0, none⟩) L 128) (((List.range (E - 64 * 0)).map fun j => tlK bs E 8 (64 * 0 + j)).map (Value.int .u8)) := by rw [hL]; exact Sl.of_row hT (by omega) (by omega) (by unfold maxLen; omega)
              have htk := take_any _ _ w.heap.size _ wr (by simp; omega) (range_getD_bd _ _ (fun j => tlK_bd bs hB E 8 _)) hsl (stI_bd _ _) hr (ht.below hbr).lt1 (by have := ht.lt1; omega) (ht.below hbr).added
              rw [last_take bs E 0 HE.out (by omega)] at htk
              have HTK := Lib.hid htk
              have hL64 : (64 : Int) ≤ (L : Int) := by omega
              have hL0 : (0 : Int) < (L : Int) := by omega
              have HH := Lib.hid (And.intro hEE (And.intro hBB hL))
              clear htk hsl hEE hBB hL hc hcp ho0 ho1
              go_wp2_with fail
              refine HTK.out.mono ?_
              rintro e w6 ⟨rfl, hr6, hg6⟩
              have hb6 : Below w.heap.size w w6 := hbr.grown hg6 hbr.size (fun k hk => by cases hk; exact Nat.le_refl _)
              have hT6 : w6.rowIs TB 141 128 (fun j => .int .u8 (tlK bs E 8 j)) := hT.of_block (hg6.block _ hT.lt (by simp; omega))
              clear HTK hr hT hg6 hbr
              go_wp2
              go_roundw
              case rel =>
                obtain ⟨h1, h2, h3⟩ := HH.out
                exact ⟨1, 64, 64, by omega, by rw [show L - 64 = E - 64 * 1 by omega], by omega, by omega, by omega, hT6, hr6, hb6⟩
              case measure => simp [lenOf]; omega
            · obtain rfl : cp = 64 := by omega
              obtain rfl : off = 64 := ho1 rfl
              have HE2 := Lib.hid hE2
              have hsl : Sl wr (.slice (some ⟨TB, 64, none⟩) L 64) (((List.range (E - 64 * 1)).map fun j => tlK bs E 8 (64 * 1 + j)).map (Value.int .u8)) := by rw [hL]; exact Sl.of_row hT (by omega) (by omega) (by unfold maxLen; omega)
              have htk := take_any _ _ w.heap.size _ wr (by simp; omega) (range_getD_bd _ _ (fun j => tlK_bd bs hB E 8 _)) hsl (stI_bd _ _) hr (ht.below hbr).lt1 (by have := ht.lt1; omega) (ht.below hbr).added
              rw [last_take bs E 1 HE.out (by omega)] at htk
              have HTK := Lib.hid htk
              have hL64 : (64 : Int) ≤ (L : Int) := by omega
              have hL0 : (0 : Int) < (L : Int) := by omega
              have HH := Lib.hid (And.intro hEE (And.intro hBB hL))
              clear htk hsl hEE hBB hL hc hcp ho0 ho1 hE2
              go_wp2_with fail
              refine HTK.out.mono ?_
              rintro e w6 ⟨rfl, hr6, hg6⟩
              have hb6 : Below w.heap.size w w6 := hbr.grown hg6 hbr.size (fun k hk => by cases hk; exact Nat.le_refl _)
              have hT6 : w6.rowIs TB 141 128 (fun j => .int .u8 (tlK bs E 8 j)) := hT.of_block (hg6.block _ hT.lt (by simp; omega))
              clear HTK hr hT hg6 hbr
              go_wp2
              go_roundw
              case rel =>
                obtain ⟨h1, h2, h3⟩ := HH.out
                have hE2 := HE2.out
                exact ⟨2, 64, 0, by omega, by rw [show L - 64 = E - 64 * 2 by omega], by omega, by omega, by omega, hT6, hr6, hb6⟩
              case measure => simp [lenOf]; omega
            · have hz : L = 0 := by omega
              have hbq : bs.length / 64 + c = blk bs.length := by omega
              rw [hbq] at hr
              rw [hz]
              clear hEE hBB hz hbq hfin ho0 ho1 hL hc hcp
              have hmk : ∀ w : World, (Instr.makeSlice 26 (.int .i64 32) (.int .i64 32)).run Tryd.prog w = .ok (.slice (some ⟨w.heap.size, 0, none⟩) 32 32) (w.alloc (.cells (madeCells #[.int .u8 0] 32) 5)) :=
                fun w => run_make_row' (P := Tryd.prog) 26 5 (.int .u8 0) 1 Tryd.underlying26 (by kernel_rfl) rfl .i64 .i64 32 (by omega) (by omega) w
              go_wp2_with fail
              have hO : (wr.alloc (.cells (madeCells #[.int .u8 0] 32) 5)).rowIs wr.heap.size 5 32 (fun j => .int .u8 (if j < 0 then outI (stI (padI bs) (blk bs.length)) j else 0)) :=
                (World.rowIs_made wr (.int .u8 0) 32 5).congr fun j hj => by simp
              have hr9 : (wr.alloc (.cells (madeCells #[.int .u8 0] 32) 5)).rowIs w.heap.size 139 8 (fun j => .int .u32 (stI (padI bs) (blk bs.length) j)) := hr.alloc _
              have hb9 : Below w.heap.size w (wr.alloc (.cells (madeCells #[.int .u8 0] 32) 5)) := hbr.alloc hbr.size _
              have hOw : w.heap.size < wr.heap.size := hr.lt
              generalize (wr.alloc (.cells (madeCells #[.int .u8 0] 32) 5)) = w9 at hO hr9 hb9 ⊢
              generalize wr.heap.size = OB at *
              clear hr hT hbr hmk
              obtain ⟨wo, rfl⟩ : ∃ wo : World, wo = wr := ⟨_, rfl⟩
              go_loopw [59] (fun i wr => ∃ m : Nat, m ≤ 32 ∧ i = .int .i64 m ∧ wr.rowIs OB 5 32 (fun j => .int .u8 (if j < m then outI (stI (padI bs) (blk bs.length)) j else 0)) ∧ wr.rowIs w.heap.size 139 8 (fun j => .int .u32 (stI (padI bs) (blk bs.length) j)) ∧ Below w.heap.size w wr) (fun i _ => 32 - (intOf i).toNat)
              case atStart => exact ⟨0, by omega, rfl, hO, hr9, hb9⟩
              case round =>
                clear hO hr9 hb9
                obtain ⟨m, hm, rfl, hO, hr, hbr⟩ := hrel
                by_cases hlt : m < 32
                · have c1 : wr.cell? ⟨w.heap.size, m / 4, none⟩ = some (.int .u32 (stI (padI bs) (blk bs.length) (m / 4))) := hr.cell (by omega)
                  have c2 : wr.cell? ⟨OB, m, none⟩ = some (.int .u8 (if m < m then outI (stI (padI bs) (blk bs.length)) m else 0)) := hO.cell (by omega)
                  have z2 : wr.frozen? ⟨OB, m, none⟩ = false := hO.frozen _
                  have b1 := stI_bd (padI bs) (blk bs.length) (m / 4)
                  have hlI : (m : Int) < 32 := by omega
                  have hO2 := hO.set m (.int .u8 (outI (stI (padI bs) (blk bs.length)) m))
                  have HO2 := Lib.hid hO2
                  have HD := Lib.hid (show outI (stI (padI bs) (blk bs.length)) m = stI (padI bs) (blk bs.length) (m / 4) / 2 ^ (8 * (3 - m % 4)) % 256 from rfl)
                  generalize stI (padI bs) (blk bs.length) (m / 4) = x at c1 b1 HD
                  rw [if_neg (by omega)] at c2
                  clear hO2
                  go_wp2
                  go_roundw
                  case rel =>
                    refine ⟨m + 1, by omega, by go_num, ?_, hr.setOther (by simp; omega) _, hbr.setCell (by simp; omega) _⟩
                    rw [← HD.out]
                    refine HO2.out.congr fun j hj => ?_
                    by_cases hjm : j = m
                    · rw [if_pos hjm, if_pos (by omega), hjm]
                    · rw [if_neg hjm]
                      by_cases hj2 : j < m
                      · rw [if_pos hj2, if_pos (by omega)]
                      · rw [if_neg hj2, if_neg (by omega)]
                  case measure => simp [intOf]; omega
                · obtain rfl : m = 32 := by omega
                  go_wp2
                  go_ret
                  refine ⟨_, rfl, ?_, hbr⟩
                  have hsl := Sl.of_row (off := 0) (c := 32) (cap := 32) hO (by omega) (by omega) (by unfold maxLen; omega)
                  have e : ((List.range 32).map fun j => if 0 + j < 32 then outI (stI (padI bs) (blk bs.length)) (0 + j) else 0) = sumI bs := by
                    unfold sumI
                    refine List.map_congr_left fun j hj => ?_
                    rw [if_pos (by simpa using hj), Nat.zero_add]
                  rw [e] at hsl
                  exact hsl

end Go.Proofs.YtgfkejecigefbaaDoor
