
/- Byte slices: bytes.Equal, parts of a slice. Conditions: none. -/
import Derived.Test.YtgfkejecigefbaaDoorRows
import Derived.Test.YtgfkejecigefbaaDoorLib
import Derived.Laws.BytesArg
import Derived.Laws.BitsLemmas
namespace Go.Proofs.YtgfkejecigefbaaDoor
open Go.RowKit
set_option linter.unusedVariables false

/-- Numbers of bytes. -/
def IsB (xs : List Int) : Prop := ∀ n ∈ xs, 0 ≤ n ∧ n ≤ 255

theorem IsB.getD {xs : List Int} (h : IsB xs) (i : Nat) : 0 ≤ xs.getD i 0 ∧ xs.getD i 0 ≤ 255 := by
  rw [List.getD_eq_getElem?_getD]
  rcases Nat.lt_or_ge i xs.length with hi | hi
  · rw [List.getElem?_eq_getElem hi]; exact h _ (List.getElem_mem hi)
  · rw [List.getElem?_eq_none hi]; simp

theorem IsB.take {xs : List Int} (h : IsB xs) (n : Nat) : IsB (xs.take n) := fun x hx => h x (List.mem_of_mem_take hx)
theorem IsB.drop {xs : List Int} (h : IsB xs) (n : Nat) : IsB (xs.drop n) := fun x hx => h x (List.mem_of_mem_drop hx)
theorem IsB.append {xs ys : List Int} (h : IsB xs) (k : IsB ys) : IsB (xs ++ ys) := fun x hx => by
  rcases List.mem_append.1 hx with h1 | h1
  · exact h x h1
  · exact k x h1

theorem byte_inj {a b : Int} (ha : 0 ≤ a ∧ a ≤ 255) (hb : 0 ≤ b ∧ b ≤ 255) (h : UInt8.ofNat a.toNat = UInt8.ofNat b.toNat) : a = b := by
  have h1 := congrArg UInt8.toNat h
  simp only [UInt8.toNat_ofNat'] at h1
  omega

theorem bytes_inj : ∀ {xs ys : List Int}, IsB xs → IsB ys → xs.map (fun n : Int => UInt8.ofNat n.toNat) = ys.map (fun n : Int => UInt8.ofNat n.toNat) → xs = ys
  | [], [], _, _, _ => rfl
  | [], _ :: _, _, _, h => by simp at h
  | _ :: _, [], _, _, h => by simp at h
  | x :: xs, y :: ys, hx, hy, h => by
    simp only [List.map_cons, List.cons.injEq] at h
    rw [byte_inj (hx x (by simp)) (hy y (by simp)) h.1, bytes_inj (fun z hz => hx z (by simp [hz])) (fun z hz => hy z (by simp [hz])) h.2]

theorem toList_inj {a b : ByteArray} (h : a.toList = b.toList) : a = b := by
  rw [ByteArray.toList_eq, ByteArray.toList_eq] at h
  obtain ⟨⟨x⟩⟩ := a
  obtain ⟨⟨y⟩⟩ := b
  simp at h
  rw [h]

theorem strOfNums_inj {xs ys : List Int} (hx : IsB xs) (hy : IsB ys) (h : strOfNums xs = strOfNums ys) : xs = ys := by
  apply bytes_inj hx hy
  rw [← strOfNums_data, ← strOfNums_data, h]

theorem Sl.conv {w : World} {v : Value} {xs : List Int} (h : Sl w v (xs.map (Value.int .u8))) :
    (convert 26 9 v).run Tryd.prog w = .ok (.string (strOfNums xs)) w := by
  obtain ⟨a, cap, rfl, h1, h2, h3⟩ := h
  simp only [List.length_map] at *
  by_cases hn : 0 < xs.length
  · obtain ⟨b, off, rfl, hlt, hc⟩ := h3 hn
    refine run_convert_bytes_arg w _ _ Tryd.underlying26 Tryd.underlying5 b off _ cap xs rfl (fun i hi => hc i _ ?_) _ Tryd.underlying9
    rw [List.getElem?_map, List.getD_eq_getElem?_getD, List.getElem?_eq_getElem hi]; rfl
  · obtain rfl : xs = [] := List.length_eq_zero_iff.1 (by omega)
    rcases a with _ | ⟨b, off, s⟩
    · exact run_convert_bytes_nil w _ _ Tryd.underlying26 Tryd.underlying5 _ _ _ Tryd.underlying9
    · rw [run_convert_bytes_string (P := Tryd.prog) w 26 9 5 (some ⟨b, off, s⟩) _ cap Tryd.underlying26 Tryd.underlying5 Tryd.underlying9,
        run_bytesToString (P := Tryd.prog) w ⟨b, off, s⟩ _ cap [] (by unfold loadCells loadCellsFrom; rfl)]
      rfl

set_option maxHeartbeats 400000 in
theorem bytesEq_any (v1 v2 : Value) (xs ys : List Int) (w : World) (h1 : Sl w v1 (xs.map (Value.int .u8))) (h2 : Sl w v2 (ys.map (Value.int .u8))) (hx : IsB xs) (hy : IsB ys) :
    Calls Tryd.prog 46 #[v1, v2] w fun e w' => e = .returned (.bool (decide (xs = ys))) ∧ w = w' := by
  have c1 := h1.conv
  have c2 := h2.conv
  have HE : Hid (strOfNums xs = strOfNums ys ↔ xs = ys) := ⟨strOfNums_inj hx hy, fun h => by rw [h]⟩
  clear hx hy
  go_enter Tryd.func46, Tryd.ntmps46
  go_wp2
  go_ret
  refine ⟨ret_bool ?_, rfl⟩
  rw [Bool.eq_iff_iff]
  simp only [beq_iff_eq, decide_eq_true_eq]
  exact ⟨fun h => HE.out.1 (toList_inj h), fun h => by rw [h]⟩

theorem bytesEq_same (v1 v2 : Value) (xs : List Int) (w : World) (h1 : Sl w v1 (xs.map (Value.int .u8))) (h2 : Sl w v2 (xs.map (Value.int .u8))) (hx : IsB xs) :
    Calls Tryd.prog 46 #[v1, v2] w fun e w' => e = .returned (.bool true) ∧ w = w' := by
  have h := bytesEq_any v1 v2 xs xs w h1 h2 hx hx
  simpa using h

theorem bytesEq_ne (v1 v2 : Value) (xs ys : List Int) (w : World) (h1 : Sl w v1 (xs.map (Value.int .u8))) (h2 : Sl w v2 (ys.map (Value.int .u8))) (hx : IsB xs) (hy : IsB ys) (hne : ¬ xs = ys) :
    Calls Tryd.prog 46 #[v1, v2] w fun e w' => e = .returned (.bool false) ∧ w = w' := by
  have h := bytesEq_any v1 v2 xs ys w h1 h2 hx hy
  simpa [hne] using h

theorem and3_i64 (x : Int) (h0 : 0 ≤ x) (h1 : x < 4611686018427387904) : bits .and .i64 x 3 = x % 4 :=
  bits_mask .i64 62 (by decide) (fun n h0 h1 => by rw [IntKind.wrap_i64]; omega) 2 (by decide) x h0 h1

theorem Sl.take {w : World} {a : Option Addr} {n cap : Nat} {xs : List Value} (h : Sl w (.slice a n cap) xs) (m : Nat) (hm : m ≤ xs.length) : Sl w (.slice a m cap) (xs.take m) := by
  obtain ⟨a', cap', h0, h1, h2, h3⟩ := h
  cases h0
  have hl : (xs.take m).length = m := by simp; omega
  refine ⟨a, cap, by rw [hl], by omega, h2, fun hp => ?_⟩
  obtain ⟨b, off, rfl, hlt, hc⟩ := h3 (by omega)
  exact ⟨b, off, rfl, hlt, fun j u hu => hc j u (by rw [List.getElem?_take] at hu; split at hu <;> simp_all)⟩

end Go.Proofs.YtgfkejecigefbaaDoor
