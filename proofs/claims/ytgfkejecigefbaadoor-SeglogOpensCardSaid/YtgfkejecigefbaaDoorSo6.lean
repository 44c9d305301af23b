
/- bytes.Repeat of one byte, a few thousand times. The walk of awake of the layer of devices. A device: Of refuses a number of texts. A device: Copy. An append of one sector to a row of sectors of the call's own. A sector built of two texts, and a row of one sector: which cells it consists of. Conditions: none. A device: Of takes good texts. A device: Of refuses a text's length (printed by gen_dvbad.py from XDvZ). The reference's device: Of refuses a number of texts. The reference's device: Of refuses a text's length (printed by gen_rvi.py from XRvF). A log of any image: the walk of the law SeglogOpens. Conditions: none. How a [][]byte that came in is opened. -/
import Derived.Test.YtgfkejecigefbaaDoorDvE
import Derived.Test.YtgfkejecigefbaaDoorMake
import Derived.Laws.Bits64b
import Derived.Lib.MakeNoZero
import Derived.Laws.CopyOwn
import Derived.Deep.RegionLaw
import Derived.Deep.Cut
import Derived.Test.YtgfkejecigefbaaDoorSo5
import Derived.Test.YtgfkejecigefbaaDoorSo1
import Derived.Test.YtgfkejecigefbaaDoorTextA
import Derived.Test.YtgfkejecigefbaaDoorSo2
import Derived.ArgAppend
import Derived.Great.BuildSlice
import Derived.Deep.Matrix
namespace Go.Proofs.YtgfkejecigefbaaDoor
open Go.RowKit
set_option linter.unusedVariables false

set_option maxHeartbeats 1000000 in
theorem mul64_one (n : Nat) (hn : n ≤ 100000) (w : World) :
    Calls Tryd.prog 72 #[.int .u64 1, .int .u64 n] w fun e w' => e = .returned (.tuple #[.int .u64 0, .int .u64 n]) ∧ w = w' := by
  have h1 : bits .and .u64 1 4294967295 = 1 := by decide
  have h0 : bits .and .u64 0 4294967295 = 0 := by decide
  have hm : bits .and .u64 (n : Int) 4294967295 = n := by
    have h := bits_and_u64_nat n 4294967295 (by omega) (by omega)
    have e : n &&& 4294967295 = n % 4294967296 := Nat.and_two_pow_sub_one_eq_mod n 32
    rw [e, Nat.mod_eq_of_lt (by omega)] at h
    exact h
  have hd : (n : Int) / 4294967296 = 0 := by omega
  have hw : IntKind.u64.wrap (n : Int) = n := by rw [IntKind.wrap_u64]; omega
  go_enter Tryd.func72, Tryd.ntmps72
  go_wp2
  go_ret2
  exact ⟨rfl, rfl⟩
theorem mul_one_any (n : Nat) (hn : n ≤ 100000) (w : World) :
    Calls Tryd.prog 50 #[.int .u64 1, .int .u64 n] w fun e w' => e = .returned (.tuple #[.int .u64 0, .int .u64 n]) ∧ w = w' := by
  have HM := Lib.hid (mul64_one n hn w)
  have hw : IntKind.u64.wrap (n : Int) = n := by rw [IntKind.wrap_u64]; omega
  go_enter Tryd.func50, Tryd.ntmps50
  go_wp2_with fail
  refine HM.out.mono ?_
  rintro e w1 ⟨rfl, rfl⟩
  go_wp2
  go_ret2
  exact ⟨rfl, rfl⟩

theorem splice_rep {cur : List Value} {p q : Nat} {u : Value} (h : cur.take p = List.replicate p u) (hl : p + q ≤ cur.length) : (splice cur p (List.replicate q u)).take (p + q) = List.replicate (p + q) u ∧ (splice cur p (List.replicate q u)).length = cur.length := by
  unfold splice
  rw [h, List.length_replicate]
  refine ⟨?_, by simp; omega⟩
  rw [← List.append_assoc, List.replicate_append_replicate, List.take_append_of_le_length (by simp), List.take_of_length_le (by simp)]

theorem wpList_copy_at {w : World} {ops : Array Oper} {rest : List Oper} {o : Oper} {a : Act} {Q : Exit → Act → World → Prop} (hgd : o.guard = none) (d s : Operand)
    (ho : o.op = .call { callee := .builtin .copy, args := #[d, s], argTypes := #[26, 26] })
    (g off dLen dCap : Nat) (ad : Addr) (sLen sCap : Nat) (hd : a.eval d = .slice (some ⟨g, off, none⟩) dLen dCap) (hs : a.eval s = .slice (some ad) sLen sCap)
    (cur : List Value) (hg : w.heap[g]? = some (.cells cur.toArray 5 (0, 0))) (cs : List Value) (hn : cs.length = Nat.min sLen dLen)
    (hsrc : ∀ j v, cs[j]? = some v → w.cell? (ad.add j) = some v)
    (hfit : off + cs.length ≤ cur.length) (h1 : ∀ v ∈ cs, v.oneCell' = true) (B : Nat) (w0 : World) (hb : Below B w0 w) (hBg : B ≤ g)
    (h : ∀ w', Hid (w'.heap[g]? = some (.cells (splice cur off cs).toArray 5 (0, 0))) → Below B w0 w' → wpList Tryd.prog ops Q rest (a.put o.dst (goInt cs.length)) w') :
    wpList Tryd.prog ops Q (o :: rest) a w :=
  wpList_copy_splice hgd d s _ _ ho 5 Tryd.underlying26 infoSize8 (some ⟨g, off, none⟩) (some ad) dLen dCap sLen sCap hd hs g off cur 5 hg cs hn (fun _ => ⟨rfl, ad, rfl, hsrc⟩) hfit h1 B w0 hb hBg h
theorem step_copy_at {ops : Array Oper} {o : Oper} {a : Act} {w : World} {K : Act → World → Prop} {Q : Exit → Act → World → Prop} {E : Prop} (hgd : o.guard = none) (d s : Operand)
    (ho : o.op = .call { callee := .builtin .copy, args := #[d, s], argTypes := #[26, 26] })
    (g off dLen dCap : Nat) (ad : Addr) (sLen sCap : Nat) (hd : a.eval d = .slice (some ⟨g, off, none⟩) dLen dCap) (hs : a.eval s = .slice (some ad) sLen sCap)
    (cur : List Value) (hg : w.heap[g]? = some (.cells cur.toArray 5 (0, 0))) (cs : List Value) (hn : cs.length = Nat.min sLen dLen)
    (hsrc : ∀ j v, cs[j]? = some v → w.cell? (ad.add j) = some v)
    (hfit : off + cs.length ≤ cur.length) (h1 : ∀ v ∈ cs, v.oneCell' = true) (B : Nat) (w0 : World) (hb : Below B w0 w) (hBg : B ≤ g)
    (h : ∀ w', Hid (w'.heap[g]? = some (.cells (splice cur off cs).toArray 5 (0, 0))) → Below B w0 w' → K (a.put o.dst (goInt cs.length)) w') :
    if Region.wanted o (yielded ops a.tmps) = true then Oper.wp Tryd.prog o a w K Q else E :=
  step_copy_splice hgd d s _ _ ho 5 Tryd.underlying26 infoSize8 (some ⟨g, off, none⟩) (some ad) dLen dCap sLen sCap hd hs g off cur 5 hg cs hn (fun _ => ⟨rfl, ad, rfl, hsrc⟩) hfit h1 B w0 hb hBg h

set_option maxRecDepth 100000 in
set_option maxHeartbeats 2000000 in
theorem repeat_any (x : Int) (n : Nat) (v : Value) (w : World) (hn1 : 1 ≤ n) (hn : n ≤ 8192) (hs : Sl w v [Value.int .u8 x]) :
    Calls Tryd.prog 26 #[v, .int .i64 n] w fun e w' => e = .returned (.slice (some ⟨w.heap.size, 0, none⟩) n n) ∧ Sl w' (.slice (some ⟨w.heap.size, 0, none⟩) n n) ((List.replicate n x).map (Value.int .u8)) ∧ (∃ cur, Blk w' w.heap.size 5 cur) ∧ Below w.heap.size w w' := by
  have HM := Lib.hid (mul_one_any n (by omega) w)
  have hw : IntKind.u64.wrap (n : Int) = n := by rw [IntKind.wrap_u64]; omega
  have hw2 : IntKind.i64.wrap (n : Int) = n := by rw [IntKind.wrap_i64]; omega
  obtain ⟨va, vc, rfl, hvc, hvm⟩ := hs.shape
  obtain ⟨b, o, rfl, hb, hc⟩ := hs.addr (by simp)
  have hz : ((n : Int) == 0) = false := by rw [beq_eq_false_iff_ne]; omega
  have hz2 : ¬ (n : Int) < 0 := by omega
  have hz3 : decide ((9223372036854775807 : Int) < (n : Int)) = false := by rw [decide_eq_false_iff_not]; omega
  have hz4 : decide ((8192 : Int) < (n : Int)) = false := by rw [decide_eq_false_iff_not]; omega
  obtain ⟨cs, hrunM, hle, hlm⟩ := Lib.run_makeNoZero (P := Tryd.prog) w #[3] 26 5 Tryd.underlying26 n (by omega)
  have hcall : (callFunc 51 #[.int .i64 (n : Int)]).run Tryd.prog w = .ok (.value (.slice (some ⟨w.heap.size, 0, none⟩) n cs.size)) ((w.alloc (.cells cs 5)).drewN 2) := by
    rw [run_callFunc_extern Tryd.func51 (by kernel_rfl) (by kernel_rfl) (by kernel_rfl) (e := Extern.BytealgMakeNoZero.makeNoZero #[3] #[26]) (by kernel_rfl), hrunM]
    rfl
  have hbA : Below w.heap.size w ((w.alloc (.cells cs 5)).drewN 2) := below_drewN ((Below.refl _ _).alloc (Nat.le_refl _) _) 2
  have kA : Blk ((w.alloc (.cells cs 5)).drewN 2) w.heap.size 5 cs.toList.toArray := by
    rw [Array.toArray_toList]; exact (Blk.new w 5 cs).drewN 2
  have hcA : ((w.alloc (.cells cs 5)).drewN 2).cell? ⟨b, o, none⟩ = some (.int .u8 x) := (hbA.cell (p := ⟨b, o, none⟩) hb).trans (by have := hc 0 _ rfl; simpa using this)
  have i1 : (n : Int) ≤ (cs.size : Int) := by omega
  clear hrunM hs hc
  go_enter Tryd.func26, Tryd.ntmps26
  go_wp2_with fail
  refine HM.out.mono ?_
  rintro e w1 ⟨rfl, rfl⟩
  have HKA := Lib.hid (show ((w.alloc (.cells cs 5)).drewN 2).heap[w.heap.size]? = some (.cells cs.toList.toArray 5 (0, 0)) from kA)
  have HC1 := Lib.hid (show [Value.int .u8 x].length = Nat.min 1 n from by show 1 = min 1 n; omega)
  have HC2 := Lib.hid (show ∀ j v, [Value.int .u8 x][j]? = some v → ((w.alloc (.cells cs 5)).drewN 2).cell? ((⟨b, o, none⟩ : Addr).add j) = some v from
    fun j u hu => by
      match j, hu with
      | 0, hu => simp at hu; subst hu; rw [add_plain0]; exact hcA
      | j + 1, hu => simp at hu)
  have HC3 := Lib.hid (show 0 + [Value.int .u8 x].length ≤ cs.toList.length from by simp; omega)
  have HC4 := Lib.hid (show ∀ v ∈ [Value.int .u8 x], v.oneCell' = true from by simp [Value.oneCell'])
  have HLC := Lib.hid (show cs.toList.length = cs.size ∧ n ≤ cs.size ∧ cs.size ≤ 9223372036854775807 from ⟨by simp, hle, by have := hlm (by unfold maxLen; omega); unfold maxLen at this; exact this⟩)
  go_wp2_with (with_reducible refine wpList_copy_at rfl _ _ rfl w.heap.size 0 n n ⟨b, o, none⟩ 1 vc rfl rfl cs.toList HKA.out [Value.int .u8 x] HC1.out HC2.out HC3.out HC4.out w.heap.size w hbA (Nat.le_refl _) ?_)
  intro w2 hk2 hb2
  obtain ⟨C, hC⟩ : ∃ C, C = splice cs.toList 0 [Value.int .u8 x] := ⟨_, rfl⟩
  have hC1 : C.take 1 = List.replicate 1 (Value.int .u8 x) ∧ C.length = cs.toList.length := by
    rw [hC]; exact splice_rep (q := 1) (by simp) HC3.out
  rw [← hC] at hk2
  have HC0 := Lib.hid (show Blk w2 w.heap.size 5 C.toArray ∧ C.take 1 = List.replicate 1 (Value.int .u8 x) ∧ C.length = cs.size from ⟨hk2.out, hC1.1, hC1.2.trans HLC.out.1⟩)
  have HB2 := Lib.hid hb2
  clear hk2 hb2 hC hC1 kA hbA hcA hcall
  go_wp2
  go_loopw [10, 11] (fun p _ wr => ∃ (k : Nat) (D : List Value), 1 ≤ k ∧ k ≤ n ∧ p = .int .i64 k ∧ Blk wr w.heap.size 5 D.toArray ∧ D.take k = List.replicate k (Value.int .u8 x) ∧ D.length = cs.size ∧ Below w.heap.size w wr) (fun p _ _ => n - (intOf p).toNat)
  case atStart => exact ⟨1, C, by omega, by omega, rfl, HC0.out.1, HC0.out.2.1, HC0.out.2.2, HB2.out⟩
  case round =>
    obtain ⟨k, D, hk1, hk, rfl, hkD, hDt, hDl, hbr⟩ := hrel
    by_cases hlt : k < n
    · have hkI : (k : Int) < (n : Int) := by omega
      have hmin : min (k : Int) (n : Int) = k := by omega
      have hnk : ¬ (n = k) := by omega
      obtain ⟨q, hq⟩ : ∃ q, q = Nat.min k (n - k) := ⟨_, rfl⟩
      have hq1 : 1 ≤ q ∧ q ≤ k ∧ k + q ≤ n := by
        have : q = min k (n - k) := hq
        omega
      have hDat : ∀ j, j < k → D[j]? = some (Value.int .u8 x) := fun j hj => by
        have := congrArg (fun l => l[j]?) hDt
        simp only [List.getElem?_take, List.getElem?_replicate, if_pos hj] at this
        exact this
      have HKD := Lib.hid (show wr.drew.heap[w.heap.size]? = some (.cells D.toArray 5 (0, 0)) from hkD)
      have HD1 := Lib.hid (show (List.replicate q (Value.int .u8 x)).length = Nat.min k (n - k) from by rw [List.length_replicate]; exact hq)
      have HD2 := Lib.hid (show ∀ j v, (List.replicate q (Value.int .u8 x))[j]? = some v → wr.drew.cell? ((⟨w.heap.size, 0, none⟩ : Addr).add j) = some v from
        fun j u hu => by
          rw [List.getElem?_replicate] at hu
          split at hu
          · rename_i hj
            cases hu
            rw [add_plain0]
            have := hkD.cell (0 + j)
            rw [Nat.zero_add] at this ⊢
            show wr.cell? _ = _
            rw [this, List.getElem?_toArray]
            exact hDat j (by omega)
          · cases hu)
      have HD3 := Lib.hid (show k + (List.replicate q (Value.int .u8 x)).length ≤ D.length from by rw [List.length_replicate, hDl]; have := HLC.out.2.1; omega)
      have HD4 := Lib.hid (show ∀ v ∈ List.replicate q (Value.int .u8 x), v.oneCell' = true from fun v hv => by obtain ⟨_, rfl⟩ := List.mem_replicate.1 hv; rfl)
      have HSP := Lib.hid (splice_rep (q := q) hDt (by rw [hDl]; have := HLC.out.2.1; omega))
      have HQL := Lib.hid (show ((List.replicate q (Value.int .u8 x)).length : Int) = q from by simp)
      have HDL := Lib.hid hDl
      have HBR := Lib.hid hbr.drew
      generalize hR : List.replicate q (Value.int .u8 x) = R at *
      clear hkD hDt hDl hDat hbr hq hR
      go_wp2
      go_region_law (refine step_copy_at rfl (.tmp 70) (.tmp 73) rfl w.heap.size k (n - k) (n - k) ⟨w.heap.size, 0, none⟩ k n ?_ ?_ D HKD.out R HD1.out HD2.out HD3.out HD4.out w.heap.size w HBR.out (Nat.le_refl _) ?_; (focus (go_simp; done)); (focus (go_simp; done)); intro w3 hk3 hb3)
      all_goals
        go_wp2
        have hl : R.length = q := by have := HQL.out; omega
        have hwr : (IntKind.i64.wrap ((k : Int) + (q : Int))) = ((k + q : Nat) : Int) := by rw [IntKind.wrap_i64]; omega
        go_simp
        exact ⟨⟨k + q, by omega, hq1.2.2, by push_cast; rfl, splice D k R, hk3.out, HSP.out.1, HSP.out.2.trans HDL.out⟩, by simp [intOf]; omega⟩
    · obtain rfl : k = n := by omega
      have hkI : ¬ (k : Int) < (k : Int) := by omega
      have HF := Lib.hid (show Sl wr (.slice (some ⟨w.heap.size, 0, none⟩) k k) ((List.replicate k x).map (Value.int .u8)) from by
        refine ⟨_, k, by simp, by simp, by have := HLC.out; unfold maxLen; omega, fun _ => ⟨w.heap.size, 0, rfl, hkD.lt, fun j u hu => ?_⟩⟩
        rw [List.getElem?_map, List.getElem?_replicate] at hu
        split at hu
        · rename_i hj
          cases hu
          have := hkD.cell (0 + j)
          rw [this, Nat.zero_add, List.getElem?_toArray]
          have h2 := congrArg (fun l => l[j]?) hDt
          simp only [List.getElem?_take, List.getElem?_replicate, if_pos hj] at h2
          exact h2
        · cases hu)
      have HKD := Lib.hid hkD
      have HBR := Lib.hid hbr
      clear hkD hDt hDl hbr
      go_wp2
      go_ret
      exact ⟨rfl, by rw [List.map_replicate] at HF; exact HF.out, ⟨_, HKD.out⟩, HBR.out⟩

end Go.Proofs.YtgfkejecigefbaaDoor

namespace Go.Proofs.YtgfkejecigefbaaDoor
open Go.RowKit
set_option linter.unusedVariables false

set_option maxRecDepth 100000 in
theorem dawake_init : (newD 2).wrE 1 (List.replicate 64 7) = 0 ∧ (((newD 2).wrote 1 (List.replicate 64 7)).crash []).rdE 1 = 0 ∧ (((newD 2).wrote 1 (List.replicate 64 7)).crash []).rd 1 = List.replicate 64 0 ∧ (((newD 2).wrote 1 (List.replicate 64 7)).crash []).changes = 1 := by
  refine ⟨?_, ?_, ?_, ?_⟩ <;> decide +kernel

end Go.Proofs.YtgfkejecigefbaaDoor

namespace Go.Proofs.YtgfkejecigefbaaDoor
open Go.RowKit
set_option linter.unusedVariables false

set_option maxRecDepth 100000 in
set_option maxHeartbeats 400000 in
theorem dof_no (v : Value) (pss : List (List Int)) (w : World) (hv : Sls w v pss) (h : ¬ (1 ≤ pss.length ∧ pss.length ≤ 16384)) :
    Calls Tryd.prog 22 #[v] w fun e w' => e = .returned (.tuple #[.pointer none, .int .i64 1]) ∧ w = w' := by
  obtain ⟨va, vc, rfl, hvc, hvm⟩ := hv.shape
  have HM := Lib.hid (dmay_any pss.length w)
  rw [show mayD pss.length = false from decide_eq_false (by omega)] at HM
  clear hv h
  go_enter Tryd.func22, Tryd.ntmps22
  go_wp2_with fail
  refine HM.out.mono ?_
  rintro e w1 ⟨rfl, rfl⟩
  go_wp2
  go_ret2
  exact ⟨rfl, rfl⟩

end Go.Proofs.YtgfkejecigefbaaDoor

namespace Go.Proofs.YtgfkejecigefbaaDoor
open Go.RowKit
set_option linter.unusedVariables false

def secCells (s : Sec) : List Value := s.now.map (Value.int .u8) ++ (s.kept.map (Value.int .u8) ++ [.bool s.waits])
def rowCells : List Sec → List Value
  | [] => []
  | s :: l => secCells s ++ rowCells l
theorem secCells_len {s : Sec} (h : s.now.length = 64 ∧ s.kept.length = 64) : (secCells s).length = 129 := by simp [secCells, h.1, h.2]
theorem rowCells_len : ∀ {l : List Sec}, (∀ s ∈ l, s.now.length = 64 ∧ s.kept.length = 64) → (rowCells l).length = l.length * 129
  | [], _ => rfl
  | s :: l, h => by
    rw [rowCells, List.length_append, secCells_len (h s (by simp)), rowCells_len fun t ht => h t (by simp [ht]), List.length_cons]
    omega
theorem rowCells_at : ∀ {l : List Sec}, (∀ s ∈ l, s.now.length = 64 ∧ s.kept.length = 64) → ∀ (i r : Nat), r < 129 → (rowCells l)[i * 129 + r]? = l[i]?.bind fun s => (secCells s)[r]?
  | [], _, i, r, _ => by simp [rowCells]
  | s :: l, h, 0, r, hr => by
    rw [rowCells, List.getElem?_append_left (by rw [secCells_len (h s (by simp))]; omega)]
    simp
  | s :: l, h, i + 1, r, hr => by
    rw [rowCells, List.getElem?_append_right (by rw [secCells_len (h s (by simp))]; omega), secCells_len (h s (by simp))]
    rw [show (i + 1) * 129 + r - 129 = i * 129 + r by omega, rowCells_at (fun t ht => h t (by simp [ht])) i r hr]
    simp
theorem secCells_now {s : Sec} (h : s.now.length = 64 ∧ s.kept.length = 64) {r : Nat} (hr : r < 64) : (secCells s)[r]? = (s.now.map (Value.int .u8))[r]? := by
  unfold secCells; rw [List.getElem?_append_left (by rw [List.length_map]; omega)]
theorem secCells_kept {s : Sec} (h : s.now.length = 64 ∧ s.kept.length = 64) {r : Nat} (hr : r < 64) : (secCells s)[64 + r]? = (s.kept.map (Value.int .u8))[r]? := by
  unfold secCells
  rw [List.getElem?_append_right (by rw [List.length_map]; omega), List.length_map, h.1, show 64 + r - 64 = r by omega, List.getElem?_append_left (by rw [List.length_map]; omega)]
theorem secCells_waits {s : Sec} (h : s.now.length = 64 ∧ s.kept.length = 64) : (secCells s)[128]? = some (.bool s.waits) := by
  unfold secCells
  rw [List.getElem?_append_right (by rw [List.length_map]; omega), List.length_map, h.1, List.getElem?_append_right (by rw [List.length_map]; omega), List.length_map, h.2]; rfl
/-- The row's cells. -/
theorem SRow.cells {w : World} {b : Nat} {l : List Sec} (h : SRow w b l) (j : Nat) (u : Value) (hj : (rowCells l)[j]? = some u) : w.cell? ⟨b, j, none⟩ = some u := by
  have e : j = j / 129 * 129 + j % 129 := by omega
  have hr : j % 129 < 129 := by omega
  generalize j / 129 = i at *
  generalize j % 129 = r at *
  subst e
  rw [rowCells_at h.len i r hr] at hj
  cases hs : l[i]? with
  | none => rw [hs] at hj; cases hj
  | some s =>
    rw [hs] at hj
    have hj : (secCells s)[r]? = some u := hj
    have hl := h.len s (List.mem_of_getElem? hs)
    obtain ⟨a1, a2, a3⟩ := h.at_ i s hs
    by_cases h1 : r < 64
    · rw [secCells_now hl h1] at hj; exact a1 r u hj
    · by_cases h2 : r < 128
      · obtain ⟨q, rfl⟩ : ∃ q, r = 64 + q := ⟨r - 64, by omega⟩
        rw [secCells_kept hl (by omega)] at hj
        rw [← Nat.add_assoc]
        exact a2 q u hj
      · obtain rfl : r = 128 := by omega
        rw [secCells_waits hl] at hj; cases hj; exact a3
theorem SRow.ofCells {w : World} {b : Nat} {l : List Sec} {cur : Array Value} (k : Blk w b 87 cur) (hl : ∀ s ∈ l, s.now.length = 64 ∧ s.kept.length = 64) (hc : ∀ (j : Nat) (u : Value), (rowCells l)[j]? = some u → cur[j]? = some u) : SRow w b l := by
  refine ⟨⟨cur, k⟩, fun i s hs => ?_, hl⟩
  have hls := hl s (List.mem_of_getElem? hs)
  have key : ∀ r u, r < 129 → (secCells s)[r]? = some u → w.cell? ⟨b, i * 129 + r, none⟩ = some u := fun r u hr hu => by
    rw [k.cell]
    refine hc _ _ ?_
    rw [rowCells_at hl i r hr, hs]; exact hu
  refine ⟨fun j v hv => ?_, fun j v hv => ?_, ?_⟩
  · have hj : j < 64 := by have := (List.getElem?_eq_some_iff.1 hv).1; rw [List.length_map] at this; omega
    exact key j v (by omega) (by rw [secCells_now hls hj]; exact hv)
  · have hj : j < 64 := by have := (List.getElem?_eq_some_iff.1 hv).1; rw [List.length_map] at this; omega
    rw [Nat.add_assoc]
    exact key (64 + j) v (by omega) (by rw [secCells_kept hls hj]; exact hv)
  · exact key 128 _ (by omega) (secCells_waits hls)

end Go.Proofs.YtgfkejecigefbaaDoor

namespace Go.Proofs.YtgfkejecigefbaaDoor
open Go.RowKit
set_option linter.unusedVariables false

theorem rowCells_snoc : ∀ (l : List Sec) (s : Sec), rowCells (l ++ [s]) = rowCells l ++ secCells s
  | [], s => by simp [rowCells]
  | t :: l, s => by rw [List.cons_append, rowCells, rowCells_snoc l s, rowCells, List.append_assoc]
theorem secCells_one (s : Sec) : ∀ u ∈ secCells s, u.oneCell' = true := by
  intro u hu
  rcases List.mem_append.1 hu with hu | hu
  · obtain ⟨x, _, rfl⟩ := List.mem_map.1 hu; rfl
  · rcases List.mem_append.1 hu with hu | hu
    · obtain ⟨x, _, rfl⟩ := List.mem_map.1 hu; rfl
    · obtain rfl : u = Value.bool s.waits := by simpa using hu
      rfl
/-- A row of sectors of the call's own. -/
def SOwn (w : World) (base : Nat) (v : Value) (l : List Sec) : Prop := w.ownsRow base 87 129 v l.length (rowCells l)
theorem step_append_sec {w : World} {ops : Array Oper} {o : Oper} {a : Act} {K : Act → World → Prop} {Q : Exit → Act → World → Prop} {E : Prop} (hgd : o.guard = none) (s x : Operand)
    (ho : o.op = .call { callee := .builtin .append, args := #[s, x], argTypes := #[41, 41] })
    (base : Nat) (v : Value) (l : List Sec) (hs : a.eval s = v) (hown : SOwn w base v l)
    (b : Nat) (hx : a.eval x = .slice (some ⟨b, 0, none⟩) 1 1) (t : Sec) (ht : t.now.length = 64 ∧ t.kept.length = 64) (hc : ∀ (j : Nat) (u : Value), (secCells t)[j]? = some u → w.cell? ⟨b, j, none⟩ = some u) (hl : l.length ≤ 16384) (hbase : base ≤ w.heap.size)
    (h : ∀ v' w', SOwn w' base v' (l ++ [t]) → w.grownBy w' v.ownBlock → K (a.put o.dst v') w') : if Region.wanted o (yielded ops a.tmps) = true then Oper.wp Tryd.prog o a w K Q else E := by
  have hi : ∃ i0, Tryd.prog.info? 87 = some i0 ∧ i0.zero = some (.agg zeroSC) ∧ i0.size = 129 ∧ i0.bytes = 129 := info_parts infoSec
  obtain ⟨i0, hi, hz0, hz1, hz2⟩ := hi
  obtain ⟨v', w', hrun, hown', hg, _⟩ := run_append_own (P := Tryd.prog) w base 41 o.type 87 i0 (.agg zeroSC) 129 129 Tryd.underlying41 hi hz0 hz1 hz2 rfl (by decide) v l.length (rowCells l) hown ⟨b, 0, none⟩ 1 1 (secCells t) (by rw [secCells_len ht])
    (fun j u hj => by rw [add_plain0, Nat.zero_add]; exact hc j u hj) (secCells_one t) (by unfold maxLen; omega) (by omega) hbase
  have hw : Region.wanted o (yielded ops a.tmps) = true := by simp [Region.wanted, hgd]
  rw [if_pos hw]
  unfold Oper.wp
  simp [execOp, ho, resolve, invoke, builtin, hs, hx, hrun, Result.andThen]
  refine h v' w' ?_ hg
  unfold SOwn
  rw [rowCells_snoc, List.length_append]
  exact hown'

end Go.Proofs.YtgfkejecigefbaaDoor

namespace Go.Proofs.YtgfkejecigefbaaDoor
open Go.RowKit
set_option linter.unusedVariables false

theorem place_get (off : Nat) : ∀ (cs : List Value) (j : Nat) (A : Array Value) (k : Nat), k < A.size →
    ((cs.zipIdx j).foldl (fun (a : Array Value) (p : Value × Nat) => a.setIfInBounds (off + p.2) p.1) A)[k]? = if off + j ≤ k ∧ k < off + j + cs.length then cs[k - (off + j)]? else A[k]?
  | [], j, A, k, h => by
    simp only [List.zipIdx_nil, List.foldl_nil, List.length_nil]
    rw [if_neg (by omega)]
  | c :: cs, j, A, k, h => by
    rw [List.zipIdx_cons, List.foldl_cons, place_get off cs (j + 1) _ k (by simpa using h)]
    by_cases h1 : k = off + j
    · subst h1
      rw [if_neg (by omega), if_pos (by simp), Array.getElem?_setIfInBounds_self_of_lt h]
      simp
    · rw [Array.getElem?_setIfInBounds_ne (fun q => h1 q.symm)]
      by_cases h2 : off + j ≤ k ∧ k < off + j + (c :: cs).length
      · rw [if_pos h2, if_pos (by simp at h2; omega), show k - (off + j) = (k - (off + (j + 1))) + 1 by omega, List.getElem?_cons_succ]
      · rw [if_neg h2, if_neg (by simp at h2; omega)]
theorem place_size (off : Nat) : ∀ (cs : List Value) (j : Nat) (A : Array Value), ((cs.zipIdx j).foldl (fun (a : Array Value) (p : Value × Nat) => a.setIfInBounds (off + p.2) p.1) A).size = A.size
  | [], j, A => rfl
  | c :: cs, j, A => by rw [List.zipIdx_cons, List.foldl_cons, place_size off cs]; simp
def putAt (off : Nat) (a c : Array Value) : Array Value := a.zipIdx.foldl (fun cs (p : Value × Nat) => cs.setIfInBounds (off + p.2) p.1) c
theorem putAt_list (off : Nat) (a c : Array Value) : putAt off a c = (a.toList.zipIdx 0).foldl (fun (a : Array Value) (p : Value × Nat) => a.setIfInBounds (off + p.2) p.1) c := by
  unfold putAt
  rw [← Array.foldl_toList, Array.toList_zipIdx]
theorem putAt_get (off : Nat) (a c : Array Value) (k : Nat) (h : k < c.size) : (putAt off a c)[k]? = if off ≤ k ∧ k < off + a.size then a[k - off]? else c[k]? := by
  rw [putAt_list, place_get off _ 0 c k h]
  simp only [Nat.add_zero, Array.length_toList, Array.getElem?_toList]
theorem putAt_size (off : Nat) (a c : Array Value) : (putAt off a c).size = c.size := by rw [putAt_list, place_size]
theorem fill_one {place : Nat → Option (Nat × Nat)} {cells : Array Value} {i off size : Nat} {v : Value} (hp : place i = some (off, size)) (hv : v.cells.size = size) (hb : off + size ≤ cells.size) (rest : List (Nat × Value)) :
    Instr.fill place cells ((i, v) :: rest) = Instr.fill place (putAt off v.cells cells) rest := by
  rw [Instr.fill, hp]
  simp only
  rw [if_neg (by simp [hv]; omega)]
  rfl

def secArr (s : Sec) : Array Value := (secCells s).toArray
theorem secArr_size {s : Sec} (h : s.now.length = 64 ∧ s.kept.length = 64) : (secArr s).size = 129 := by simp [secArr, secCells_len h]
theorem zeroSC_size : zeroSC.size = 129 := by simp [zeroSC]
theorem zeroSC_last : zeroSC[128]? = some (.bool false) := by kernel_rfl
theorem sec_put (p : List Int) (hp : p.length = 64) : putAt 64 (p.map (Value.int .u8)).toArray (putAt 0 (p.map (Value.int .u8)).toArray zeroSC) = secArr ⟨p, p, false⟩ := by
  have hl : (⟨p, p, false⟩ : Sec).now.length = 64 ∧ (⟨p, p, false⟩ : Sec).kept.length = 64 := ⟨hp, hp⟩
  apply Array.ext_getElem?
  intro k
  by_cases hk : k < 129
  · rw [putAt_get _ _ _ _ (by rw [putAt_size, zeroSC_size]; exact hk), putAt_get _ _ _ _ (by rw [zeroSC_size]; exact hk)]
    simp only [List.size_toArray, List.length_map, hp, Nat.zero_le, true_and, Nat.zero_add, Nat.sub_zero]
    unfold secArr
    simp only [List.getElem?_toArray]
    by_cases h1 : k < 64
    · rw [if_neg (by omega), if_pos h1, secCells_now hl h1]
    · by_cases h2 : k < 128
      · rw [if_pos (by omega)]
        obtain ⟨r, rfl⟩ : ∃ r, k = 64 + r := ⟨k - 64, by omega⟩
        rw [secCells_kept hl (by omega), show 64 + r - 64 = r by omega]
      · obtain rfl : k = 128 := by omega
        rw [if_neg (by omega), if_neg (by omega), secCells_waits hl]
        exact zeroSC_last
  · rw [Array.getElem?_eq_none (by rw [putAt_size, putAt_size, zeroSC_size]; omega), Array.getElem?_eq_none (by rw [secArr_size hl]; omega)]
theorem whole_put (a c : Array Value) (h : a.size = c.size) : putAt 0 a c = a := by
  apply Array.ext_getElem?
  intro k
  by_cases hk : k < c.size
  · rw [putAt_get _ _ _ _ hk, if_pos (by omega), Nat.sub_zero]
  · rw [Array.getElem?_eq_none (by rw [putAt_size]; omega), Array.getElem?_eq_none (by omega)]

theorem built_sec0 (v : Value) : Tryd.prog.built 87 [(0, v), (1, v)] = Instr.fill ([(0, 64), (64, 64), (128, 1)].toArray[·]?) zeroSC [(0, v), (1, v)] := by kernel_rfl
theorem built_sec (p : List Int) (hp : p.length = 64) : Tryd.prog.built 87 [(0, .agg (p.map (Value.int .u8)).toArray), (1, .agg (p.map (Value.int .u8)).toArray)] = some (secArr ⟨p, p, false⟩) := by
  have hs : (Value.agg (p.map (Value.int .u8)).toArray).cells.size = 64 := by show (p.map (Value.int .u8)).toArray.size = 64; simp [hp]
  rw [built_sec0, fill_one (off := 0) (size := 64) rfl hs (by rw [zeroSC_size]; omega), fill_one (off := 64) (size := 64) rfl hs (by rw [putAt_size, zeroSC_size]; omega)]
  show some _ = _
  rw [← sec_put p hp]
  rfl
theorem fill_row (s : Sec) (h : s.now.length = 64 ∧ s.kept.length = 64) (n : Nat) (hn : n = 129) :
    Instr.fill (fun i => some (i * n, n)) ((Array.range (1 * n)).map ((Value.agg zeroSC).cells[· % (Value.agg zeroSC).cells.size]!)) [(0, .agg (secArr s))] = some (secArr s) := by
  subst hn
  have hs : (Value.agg (secArr s)).cells.size = 129 := secArr_size h
  rw [fill_one (off := 0) (size := 129) (by simp) hs (by simp)]
  show some _ = _
  rw [whole_put _ _ (by rw [hs]; simp)]
  rfl

end Go.Proofs.YtgfkejecigefbaaDoor

namespace Go.Proofs.YtgfkejecigefbaaDoor
open Go.RowKit
set_option linter.unusedVariables false

def secOf (p : List Int) : Sec := { now := p, kept := p, waits := false }

/-- The call's slots in the region. -/
abbrev dzAct (y sb : Nat) (p : List Int) (x0 x1 x2 x3 x5 x6 x8 x9 x10 x11 x12 x13 x14 x15 x16 x17 x18 x19 x20 x21 x22 x23 x24 x38 x39 : Value) (u : Nat → Value) : Act := { tmps := #[x0, x1, x2, x3, .pointer (some ⟨y, 0, none⟩), x5, x6, .pointer (some ⟨sb, 0, none⟩), x8, x9, x10, x11, x12, x13, x14, x15, x16, x17, x18, x19, x20, x21, x22, x23, x24, (.agg (p.map (Value.int .u8)).toArray), u 26, u 27, u 28, u 29, u 30, u 31, u 32, u 33, u 34, u 35, u 36, u 37, x38, x39], defers := [] }
structure DzT (y : Nat) (vL : Value) (p : List Int) (D : Nat → Bool) (u : Nat → Value) : Prop where
  s0 : D 0 = true → u 26 = .pointer (some ⟨y, 0, none⟩)
  s1 : D 1 = true → u 27 = .pointer (some ⟨y, 0, none⟩)
  s2 : D 2 = true → u 28 = .pointer (some ⟨y, 0, none⟩)
  s3 : D 3 = true → u 29 = .pointer (some ⟨y, 0, none⟩)
  s4 : D 4 = true → u 30 = vL
  s5 : D 5 = true → u 31 = (.agg (p.map (Value.int .u8)).toArray)
  s6 : D 6 = true → u 32 = (.agg (p.map (Value.int .u8)).toArray)
  s7 : D 7 = true → u 33 = .agg (secArr ⟨p, p, false⟩)
  s10 : D 10 = true → u 36 = .pointer (some ⟨y, 0, none⟩)
  s11 : D 11 = true → u 37 = .pointer (some ⟨y, 0, none⟩)
structure DzW (y sb : Nat) (vL : Value) (X : List Sec) (p : List Int) (W : World) (D : Nat → Bool) (u : Nat → Value) (w : World) : Prop where
  blk : Blk w y 43 #[cond (D 12) (u 35) vL, .bool false, .bool false, .int .i64 0, .int .i64 0]
  bel : Below W.heap.size W w
  kS : Blk w sb 85 (p.map (Value.int .u8)).toArray
  l0 : D 9 = false → SOwn w W.heap.size vL X
  l1 : D 9 = true → SOwn w W.heap.size (u 35) (X ++ [(⟨p, p, false⟩ : Sec)])
  a8 : D 8 = true → D 9 = false → ∃ b, u 34 = .slice (some ⟨b, 0, none⟩) 1 1 ∧ Blk w b 87 (secArr ⟨p, p, false⟩)
def dzInv (y sb : Nat) (vL : Value) (X : List Sec) (p : List Int) (W : World) (x0 x1 x2 x3 x5 x6 x8 x9 x10 x11 x12 x13 x14 x15 x16 x17 x18 x19 x20 x21 x22 x23 x24 x38 x39 : Value) (D : Nat → Bool) (a : Act) (w : World) : Prop :=
  ∃ u, a = dzAct y sb p x0 x1 x2 x3 x5 x6 x8 x9 x10 x11 x12 x13 x14 x15 x16 x17 x18 x19 x20 x21 x22 x23 x24 x38 x39 u ∧ DzT y vL p D u ∧ DzW y sb vL X p W D u w
theorem SOwn.below {w w' : World} {base : Nat} {v : Value} {l : List Sec} (h : SOwn w base v l) (hb : Below w.heap.size w w') : SOwn w' base v l := ownsRow_below h hb (Nat.le_refl _)

set_option maxRecDepth 100000 in
set_option maxHeartbeats 1000000 in
theorem dof_ok (v : Value) (pss : List (List Int)) (w0 : World) (hv : Sls w0 v pss) (h1 : 1 ≤ pss.length) (h2 : pss.length ≤ 16384) (hl : ∀ p ∈ pss, p.length = 64 ∧ IsB p) :
    Calls Tryd.prog 22 #[v] w0 fun e w' => ∃ g b, e = .returned (.tuple #[.pointer (some ⟨g, 0, none⟩), .int .i64 0]) ∧ w0.heap.size ≤ g ∧ w0.heap.size ≤ b ∧ Dev w' g b (ofD pss) ∧ Below w0.heap.size w0 w' := by
  have HV := Lib.hid hv
  obtain ⟨va, vc, rfl, hvc, hvm⟩ := hv.shape
  have HM := Lib.hid (dmay_any pss.length w0)
  rw [show mayD pss.length = true from decide_eq_true (by omega)] at HM
  have hbA : Below w0.heap.size w0 (w0.alloc (.cells #[.slice none 0 0, .bool false, .bool false, .int .i64 0, .int .i64 0] 43)) := (Below.refl _ _).alloc (Nat.le_refl _) _
  have kA := Blk.new w0 43 #[.slice none 0 0, .bool false, .bool false, .int .i64 0, .int .i64 0]
  have HBA := Lib.hid hbA
  have HKA := Lib.hid kA
  have HH := Lib.hid hl
  clear hv hbA kA hl
  go_enter Tryd.func22, Tryd.ntmps22
  go_wp2_with fail
  refine HM.out.mono ?_
  rintro e w1 ⟨rfl, rfl⟩
  go_upto_region 5 with (fail)
  generalize (w0.alloc (.cells #[.slice none 0 0, .bool false, .bool false, .int .i64 0, .int .i64 0] 43)) = wA at *
  go_loopw [16] (fun i wr => ∃ (k : Nat) (vL : Value), k ≤ pss.length ∧ i = .int .i64 k ∧ Blk wr w0.heap.size 43 #[vL, .bool false, .bool false, .int .i64 0, .int .i64 0] ∧ SOwn wr w0.heap.size vL ((pss.take k).map secOf) ∧ Below w0.heap.size w0 wr) (fun i _ => pss.length - (intOf i).toNat)
  case atStart => exact ⟨0, _, by omega, rfl, HKA.out, World.ownsRow_nil _ _ _ _, HBA.out⟩
  case round =>
    obtain ⟨k, vL, hk, rfl, hY, hL, hb⟩ := hrel
    by_cases hlt : k < pss.length
    · have hkI : (k : Int) < (pss.length : Int) := by omega
      obtain ⟨b, off, rfl, hbb, uu, hcu, hu⟩ := HV.out.at hlt
      have hcu := (hb.cell (p := ⟨b, off + k, none⟩) hbb).trans hcu
      rw [show pss.getD k [] = pss[k] from by rw [List.getD_eq_getElem?_getD, List.getElem?_eq_getElem hlt]; rfl] at hu
      have hp := HH.out _ (List.getElem_mem hlt)
      have ht : (pss.take k).map secOf ++ [secOf pss[k]] = (pss.take (k + 1)).map secOf := by rw [List.map_take, List.map_take, show secOf pss[k] = (pss.map secOf)[k]'(by simpa using hlt) from by simp, List.take_append_getElem]
      have hX : ((pss.take k).map secOf).length = k := by simp; omega
      generalize pss[k] = p at *
      generalize (pss.take k).map secOf = X at *
      obtain ⟨ta, tc, rfl, htc, htm⟩ := hu.shape
      obtain ⟨tb, to_, rfl, htb, hcl⟩ := hu.ints (k := 0) (by omega)
      have hrg : wr.rangeAt tb to_ (p.map (Value.int .u8)) := fun m u hm => by
        have hmp : m < p.length := by have := (List.getElem?_eq_some_iff.1 hm).1; simpa using this
        rw [hb.cell (p := ⟨tb, to_ + m, none⟩) htb, hcl m hmp, ← hm, List.getElem?_map, List.getElem?_eq_getElem hmp, List.getD_eq_getElem?_getD, List.getElem?_eq_getElem hmp]; rfl
      have HP := Lib.hid hp.1
      rw [List.length_map, hp.1] at hcu htc
      have HRG := Lib.hid hrg
      have HT := Lib.hid ht
      have HPB := Lib.hid hp.2
      have HY := Lib.hid hY
      have HL := Lib.hid hL
      have HX := Lib.hid hX
      have HBR := Lib.hid hb
      clear hu hp hcl hrg ht hY hL hX hb
      have hsa := fun w' => run_toArray tb to_ tc w'
      go_upto_region 10 with (first
        | (with_reducible refine wpList_load_mid rfl _ _ rfl tb to_ rfl (p.map (Value.int .u8)) _ HRG.out Tryd.underlying85 rfl (size64L HP.out) ?_)
        | (refine wpList_allocTo rfl _ rfl (.pointer (some ⟨wr.heap.size, 0, none⟩)) (.cells z64 85) (by kernel_rfl) ?_)
        | (refine wpList_store_row rfl 85 _ _ rfl wr.heap.size (p.map (Value.int .u8)).toArray rfl rfl 85 z64 (heap_alloc_new _ _) (by rw [List.size_toArray]; exact size64L HP.out) (by simp [z64, HP.out]) (all_oneCell_toArray (oneB _)) ?_))
      generalize hwS : (World.setRow (wr.alloc _) wr.heap.size _) = wS
      have kS : Blk wS wr.heap.size 85 (p.map (Value.int .u8)).toArray := by rw [← hwS]; exact setRow_heap _ _ _ _ _ _ (heap_alloc_new _ _)
      have hbS : Below wr.heap.size wr wS := by
        rw [← hwS]
        exact ⟨rfl, rfl, rfl, by simp, fun k hk => (setRow_other _ _ _ _ (by omega)).trans (Below.heap_alloc _ _ _ hk)⟩
      have hYS := HY.out.belowS hbS
      have hLS := HL.out.below hbS
      have hBS := below_trans2 HBR.out hbS
      clear hwS
      refine wp_region_inv2 (dzInv w0.heap.size wr.heap.size vL X p w0 (.slice (some ⟨b, off, none⟩) pss.length vc) undef u2 u3 undef (.slice (some ⟨tb, to_, none⟩) 64 tc) (.slice (some ⟨b, off, none⟩) pss.length vc) (.int .i64 pss.length) (.bool true) (.bool false) (.agg #[.slice none 0 0, .bool false, .bool false, .int .i64 0, .int .i64 0]) (.pointer (some ⟨w0.heap.size, 0, none⟩)) (.slice (some ⟨b, off, none⟩) pss.length vc) (.int .i64 pss.length) (.int .i64 k) (.bool true) (.pointer (some ⟨b, off + k, none⟩)) (.slice (some ⟨tb, to_, none⟩) 64 tc) (.slice (some ⟨tb, to_, none⟩) 64 tc) (.int .i64 64) (.bool false) (.slice (some ⟨tb, to_, none⟩) 64 tc) (.pointer (some ⟨tb, to_, none⟩)) u38 undef) (by kernel_rfl) (by kernel_rfl) ?start ?step ?fin
      case start =>
        refine ⟨fun k => (#[u26, u27, u28, u29, u30, u31, u32, u33, u34, u35, u36, u37] : Array Value).getD (k - 26) undef, rfl, ?_, ?_⟩
        · exact ⟨(fun q => by cases q), (fun q => by cases q), (fun q => by cases q), (fun q => by cases q), (fun q => by cases q), (fun q => by cases q), (fun q => by cases q), (fun q => by cases q), (fun q => by cases q), (fun q => by cases q)⟩
        · exact ⟨hYS, hBS.drew, kS, fun _ => hLS, (fun q => by cases q), (fun q => by cases q)⟩
      case step =>
        intro D a w i hi hI hD hcl hn
        obtain ⟨u, rfl, hT, hW⟩ := hI
        have hi' : i < 13 := hi
        clear hi
        rcases (show i = 0 ∨ i = 1 ∨ i = 2 ∨ i = 3 ∨ i = 4 ∨ i = 5 ∨ i = 6 ∨ i = 7 ∨ i = 8 ∨ i = 9 ∨ i = 10 ∨ i = 11 ∨ i = 12 from by omega) with rfl | rfl | rfl | rfl | rfl | rfl | rfl | rfl | rfl | rfl | rfl | rfl | rfl
        · refine wpOp_plain rfl rfl ?_
          go_simp
          exact ⟨upd u 26 (.pointer (some ⟨w0.heap.size, 0, none⟩)), rfl, ⟨fun _ => rfl, fun h => hT.s1 h, fun h => hT.s2 h, fun h => hT.s3 h, fun h => hT.s4 h, fun h => hT.s5 h, fun h => hT.s6 h, fun h => hT.s7 h, fun h => hT.s10 h, fun h => hT.s11 h⟩, ⟨hW.blk, hW.bel, hW.kS, hW.l0, hW.l1, hW.a8⟩⟩
        · refine wpOp_plain rfl rfl ?_
          go_simp
          exact ⟨upd u 27 (.pointer (some ⟨w0.heap.size, 0, none⟩)), rfl, ⟨fun h => hT.s0 h, fun _ => rfl, fun h => hT.s2 h, fun h => hT.s3 h, fun h => hT.s4 h, fun h => hT.s5 h, fun h => hT.s6 h, fun h => hT.s7 h, fun h => hT.s10 h, fun h => hT.s11 h⟩, ⟨hW.blk, hW.bel, hW.kS, hW.l0, hW.l1, hW.a8⟩⟩
        · have d1 : D 1 = true := hn 1 (needs_b (by kernel_rfl))
          have e27 := hT.s1 d1
          refine wpOp_plain rfl rfl ?_
          go_simp
          exact ⟨upd u 28 (.pointer (some ⟨w0.heap.size, 0, none⟩)), by first | rfl | simp [upd, e27], ⟨fun h => hT.s0 h, fun h => hT.s1 h, fun _ => rfl, fun h => hT.s3 h, fun h => hT.s4 h, fun h => hT.s5 h, fun h => hT.s6 h, fun h => hT.s7 h, fun h => hT.s10 h, fun h => hT.s11 h⟩, ⟨hW.blk, hW.bel, hW.kS, hW.l0, hW.l1, hW.a8⟩⟩
        · have d2 : D 2 = true := hn 2 (needs_b (by kernel_rfl))
          have e28 := hT.s2 d2
          refine wpOp_plain rfl rfl ?_
          go_simp
          exact ⟨upd u 29 (.pointer (some ⟨w0.heap.size, 0, none⟩)), by first | rfl | simp [upd, e28], ⟨fun h => hT.s0 h, fun h => hT.s1 h, fun h => hT.s2 h, fun _ => rfl, fun h => hT.s4 h, fun h => hT.s5 h, fun h => hT.s6 h, fun h => hT.s7 h, fun h => hT.s10 h, fun h => hT.s11 h⟩, ⟨hW.blk, hW.bel, hW.kS, hW.l0, hW.l1, hW.a8⟩⟩
        · have d3 : D 3 = true := hn 3 (needs_b (by kernel_rfl))
          have e29 := hT.s3 d3
          have n1 : D 12 = false := by
            cases q : D 12 with
            | false => rfl
            | true => have := hcl 9 4 (hcl 12 9 q (needs_b (by kernel_rfl))) (needs_b (by kernel_rfl)); rw [hD] at this; cases this
          have c0 : w.cell? ⟨w0.heap.size, 0, none⟩ = some vL := (hW.blk.cell 0).trans (by simp [n1])
          refine wpOp_plain rfl rfl ?_
          go_simp
          exact ⟨upd u 30 (vL), by first | rfl | simp [upd, e29], ⟨fun h => hT.s0 h, fun h => hT.s1 h, fun h => hT.s2 h, fun h => hT.s3 h, fun _ => rfl, fun h => hT.s5 h, fun h => hT.s6 h, fun h => hT.s7 h, fun h => hT.s10 h, fun h => hT.s11 h⟩, ⟨hW.blk, hW.bel, hW.kS, hW.l0, hW.l1, hW.a8⟩⟩
        · have hrgS : w.rangeAt wr.heap.size 0 (p.map (Value.int .u8)) := fun m u hm => by rw [Nat.zero_add, hW.kS.cell, List.getElem?_toArray]; exact hm
          refine wpOp_plain rfl rfl ?_
          refine wp_load_mid _ _ rfl wr.heap.size 0 rfl (p.map (Value.int .u8)) _ hrgS Tryd.underlying85 rfl (size64L HP.out) ?_
          exact ⟨upd u 31 (.agg (p.map (Value.int .u8)).toArray), rfl, ⟨fun h => hT.s0 h, fun h => hT.s1 h, fun h => hT.s2 h, fun h => hT.s3 h, fun h => hT.s4 h, fun _ => rfl, fun h => hT.s6 h, fun h => hT.s7 h, fun h => hT.s10 h, fun h => hT.s11 h⟩, ⟨hW.blk, hW.bel, hW.kS, hW.l0, hW.l1, hW.a8⟩⟩
        · have hrgS : w.rangeAt wr.heap.size 0 (p.map (Value.int .u8)) := fun m u hm => by rw [Nat.zero_add, hW.kS.cell, List.getElem?_toArray]; exact hm
          refine wpOp_plain rfl rfl ?_
          refine wp_load_mid _ _ rfl wr.heap.size 0 rfl (p.map (Value.int .u8)) _ hrgS Tryd.underlying85 rfl (size64L HP.out) ?_
          exact ⟨upd u 32 (.agg (p.map (Value.int .u8)).toArray), rfl, ⟨fun h => hT.s0 h, fun h => hT.s1 h, fun h => hT.s2 h, fun h => hT.s3 h, fun h => hT.s4 h, fun h => hT.s5 h, fun _ => rfl, fun h => hT.s7 h, fun h => hT.s10 h, fun h => hT.s11 h⟩, ⟨hW.blk, hW.bel, hW.kS, hW.l0, hW.l1, hW.a8⟩⟩
        · have d5 : D 5 = true := hn 5 (needs_b (by kernel_rfl))
          have d6 : D 6 = true := hn 6 (needs_b (by kernel_rfl))
          have e31 := hT.s5 d5
          have e32 := hT.s6 d6
          have hbu : Tryd.prog.built 87 ((#[(0, .tmp 31), (1, .tmp 32)] : Array (Nat × Operand)).map fun (i, x) => (i, (dzAct w0.heap.size wr.heap.size p (.slice (some ⟨b, off, none⟩) pss.length vc) undef u2 u3 undef (.slice (some ⟨tb, to_, none⟩) 64 tc) (.slice (some ⟨b, off, none⟩) pss.length vc) (.int .i64 pss.length) (.bool true) (.bool false) (.agg #[.slice none 0 0, .bool false, .bool false, .int .i64 0, .int .i64 0]) (.pointer (some ⟨w0.heap.size, 0, none⟩)) (.slice (some ⟨b, off, none⟩) pss.length vc) (.int .i64 pss.length) (.int .i64 k) (.bool true) (.pointer (some ⟨b, off + k, none⟩)) (.slice (some ⟨tb, to_, none⟩) 64 tc) (.slice (some ⟨tb, to_, none⟩) 64 tc) (.int .i64 64) (.bool false) (.slice (some ⟨tb, to_, none⟩) 64 tc) (.pointer (some ⟨tb, to_, none⟩)) u38 undef u).eval x)).toList = some (secArr ⟨p, p, false⟩) := by
            rw [List.map_toArray]
            show Tryd.prog.built _ [(0, u 31), (1, u 32)] = _
            rw [e31, e32]
            exact built_sec p HP.out
          refine wpOp_plain rfl rfl ?_
          refine wp_build _ _ rfl (by rw [hbu]; rfl) ?_
          rw [hbu]
          exact ⟨upd u 33 (.agg (secArr ⟨p, p, false⟩)), rfl, ⟨fun h => hT.s0 h, fun h => hT.s1 h, fun h => hT.s2 h, fun h => hT.s3 h, fun h => hT.s4 h, fun h => hT.s5 h, fun h => hT.s6 h, fun _ => rfl, fun h => hT.s10 h, fun h => hT.s11 h⟩, ⟨hW.blk, hW.bel, hW.kS, hW.l0, hW.l1, hW.a8⟩⟩
        · have d7 : D 7 = true := hn 7 (needs_b (by kernel_rfl))
          have e33 := hT.s7 d7
          obtain ⟨i0, hi0, hz0, hz1, hz2⟩ := info_parts infoSec
          have hfl : Instr.fill (fun i => some (i * i0.size, i0.size)) ((Array.range (1 * i0.size)).map ((Value.agg zeroSC).cells[· % (Value.agg zeroSC).cells.size]!)) ((#[(0, .tmp 33)] : Array (Nat × Operand)).map fun (i, x) => (i, (dzAct w0.heap.size wr.heap.size p (.slice (some ⟨b, off, none⟩) pss.length vc) undef u2 u3 undef (.slice (some ⟨tb, to_, none⟩) 64 tc) (.slice (some ⟨b, off, none⟩) pss.length vc) (.int .i64 pss.length) (.bool true) (.bool false) (.agg #[.slice none 0 0, .bool false, .bool false, .int .i64 0, .int .i64 0]) (.pointer (some ⟨w0.heap.size, 0, none⟩)) (.slice (some ⟨b, off, none⟩) pss.length vc) (.int .i64 pss.length) (.int .i64 k) (.bool true) (.pointer (some ⟨b, off + k, none⟩)) (.slice (some ⟨tb, to_, none⟩) 64 tc) (.slice (some ⟨tb, to_, none⟩) 64 tc) (.int .i64 64) (.bool false) (.slice (some ⟨tb, to_, none⟩) 64 tc) (.pointer (some ⟨tb, to_, none⟩)) u38 undef u).eval x)).toList = some (secArr ⟨p, p, false⟩) := by
            rw [List.map_toArray (l := [(0, Operand.tmp 33)])]
            show Instr.fill _ _ [(0, u 33)] = _
            rw [e33]
            exact fill_row ⟨p, p, false⟩ ⟨HP.out, HP.out⟩ i0.size hz1
          have hb2 : Below w.heap.size w (w.alloc (.cells (secArr ⟨p, p, false⟩) 87)) := (Below.refl _ _).alloc (Nat.le_refl _) _
          have kb := Blk.new w 87 (secArr ⟨p, p, false⟩)
          refine wpOp_plain rfl rfl ?_
          refine wp_buildSlice 41 87 1 _ rfl (secArr ⟨p, p, false⟩) i0 (.agg zeroSC) Tryd.underlying41 hi0 hz0 (by rw [hz1]; omega) (by rw [hz1]; omega) hfl ?_
          exact ⟨upd u 34 (.slice (some ⟨w.heap.size, 0, none⟩) 1 1), rfl, ⟨fun h => hT.s0 h, fun h => hT.s1 h, fun h => hT.s2 h, fun h => hT.s3 h, fun h => hT.s4 h, fun h => hT.s5 h, fun h => hT.s6 h, fun h => hT.s7 h, fun h => hT.s10 h, fun h => hT.s11 h⟩, ⟨hW.blk.belowS hb2, below_trans2 hW.bel hb2, hW.kS.belowS hb2, fun q => (hW.l0 q).below hb2, fun q => (hW.l1 q).below hb2, fun _ _ => ⟨w.heap.size, rfl, kb⟩⟩⟩
        · have d4 : D 4 = true := hn 4 (needs_b (by kernel_rfl))
          have d8 : D 8 = true := hn 8 (needs_b (by kernel_rfl))
          have e30 := hT.s4 d4
          obtain ⟨b8, e34, kb⟩ := hW.a8 d8 hD
          have hOL := hW.l0 hD
          have n12 : D 12 = false := by
            cases q : D 12 with
            | false => rfl
            | true => have := hcl 12 9 q (needs_b (by kernel_rfl)); rw [hD] at this; cases this
          refine wpOp_step rfl rfl (step_append_sec rfl (.tmp 30) (.tmp 34) rfl w0.heap.size vL X e30 hOL b8 e34 ⟨p, p, false⟩ ⟨HP.out, HP.out⟩ (fun j u hj => by rw [kb.cell, secArr, List.getElem?_toArray]; exact hj) (by rw [HX.out]; omega) hW.bel.size ?_)
          intro v2 w2 hx hg2
          have ho := Only.of_grownO hg2
          have typ : ∀ g ∈ vL.ownBlock.toList, ∃ cur, Blk w g 87 cur := fun g hg => owns_blk hOL (by simpa using hg)
          have hyn : w0.heap.size ∉ vL.ownBlock.toList := fun hm => by
            obtain ⟨cur2, k2⟩ := typ _ hm
            exact Blk.ne_ hW.blk k2 (by decide) rfl
          have hsn : wr.heap.size ∉ vL.ownBlock.toList := fun hm => by
            obtain ⟨cur2, k2⟩ := typ _ hm
            exact Blk.ne_ hW.kS k2 (by decide) rfl
          have hb2 : Below w0.heap.size w w2 := (Below.refl _ _).grown hg2 hW.bel.size (fun k hk => (World.ownsRow.lt hOL k hk).1)
          exact ⟨upd u 35 v2, rfl, ⟨fun h => hT.s0 h, fun h => hT.s1 h, fun h => hT.s2 h, fun h => hT.s3 h, fun h => hT.s4 h, fun h => hT.s5 h, fun h => hT.s6 h, fun h => hT.s7 h, fun h => hT.s10 h, fun h => hT.s11 h⟩, ⟨by have h := ho.blk hW.blk hyn; rw [n12] at h; show Blk _ _ _ #[cond (D 12) v2 vL, _, _, _, _]; rw [n12]; exact h, hW.bel.trans hb2, ho.blk hW.kS hsn, fun q => (by cases q), fun _ => hx, fun _ q => (by cases q)⟩⟩
        · have d0 : D 0 = true := hn 0 (needs_b (by kernel_rfl))
          have e26 := hT.s0 d0
          refine wpOp_plain rfl rfl ?_
          go_simp
          exact ⟨upd u 36 (.pointer (some ⟨w0.heap.size, 0, none⟩)), by first | rfl | simp [upd, e26], ⟨fun h => hT.s0 h, fun h => hT.s1 h, fun h => hT.s2 h, fun h => hT.s3 h, fun h => hT.s4 h, fun h => hT.s5 h, fun h => hT.s6 h, fun h => hT.s7 h, fun _ => rfl, fun h => hT.s11 h⟩, ⟨hW.blk, hW.bel, hW.kS, hW.l0, hW.l1, hW.a8⟩⟩
        · have d10 : D 10 = true := hn 10 (needs_b (by kernel_rfl))
          have e36 := hT.s10 d10
          refine wpOp_plain rfl rfl ?_
          go_simp
          exact ⟨upd u 37 (.pointer (some ⟨w0.heap.size, 0, none⟩)), by first | rfl | simp [upd, e36], ⟨fun h => hT.s0 h, fun h => hT.s1 h, fun h => hT.s2 h, fun h => hT.s3 h, fun h => hT.s4 h, fun h => hT.s5 h, fun h => hT.s6 h, fun h => hT.s7 h, fun h => hT.s10 h, fun _ => rfl⟩, ⟨hW.blk, hW.bel, hW.kS, hW.l0, hW.l1, hW.a8⟩⟩
        · have d9 : D 9 = true := hn 9 (needs_b (by kernel_rfl))
          have d11 : D 11 = true := hn 11 (needs_b (by kernel_rfl))
          have e37 := hT.s11 d11
          have hx := hW.l1 d9
          obtain ⟨g3, c3, e35⟩ : ∃ a c, u 35 = Value.slice a (X ++ [(⟨p, p, false⟩ : Sec)]).length c := by
            rcases World.ownsRow.form hx (by simp) with ⟨g3, c3, e, _⟩
            exact ⟨_, _, e⟩
          have c0 : w.cell? ⟨w0.heap.size, 0, none⟩ = some vL := (hW.blk.cell 0).trans (by simp [hD])
          have f0 := hW.blk.frozen 0
          have ho : Only [w0.heap.size] w (w.setCell ⟨w0.heap.size, 0, none⟩ (.slice g3 (X ++ [(⟨p, p, false⟩ : Sec)]).length c3)) := Only.setCell _ _ (by simp) _
          have hbk := hW.blk.set_ 0 (.slice g3 (X ++ [(⟨p, p, false⟩ : Sec)]).length c3)
          have hsn : wr.heap.size ∉ [w0.heap.size] := fun hm => Blk.ne_ hW.kS hW.blk (by decide) (by simpa using hm)
          have hx2 : SOwn (w.setCell ⟨w0.heap.size, 0, none⟩ (.slice g3 (X ++ [(⟨p, p, false⟩ : Sec)]).length c3)) w0.heap.size (u 35) (X ++ [(⟨p, p, false⟩ : Sec)]) := ho.owns hx fun g hg hm => by
            obtain ⟨cur, k⟩ := owns_blk hx hg
            obtain rfl : g = w0.heap.size := by simpa using hm
            exact Blk.ne_ k hW.blk (by decide) rfl
          refine wpOp_plain rfl rfl ?_
          generalize (X ++ [(⟨p, p, false⟩ : Sec)]).length = lenX at *
          go_simp
          exact ⟨u, by first | rfl | simp [e35, e37], ⟨fun h => hT.s0 h, fun h => hT.s1 h, fun h => hT.s2 h, fun h => hT.s3 h, fun h => hT.s4 h, fun h => hT.s5 h, fun h => hT.s6 h, fun h => hT.s7 h, fun h => hT.s10 h, fun h => hT.s11 h⟩, ⟨by show Blk _ _ _ #[u 35, .bool false, .bool false, .int .i64 0, .int .i64 0]; rw [e35]; exact hbk, Only.belowOf hW.bel ho hW.bel.size (by simp), ho.blk hW.kS hsn, fun q => (by rw [show D 9 = false from q] at d9; cases d9), fun _ => hx2, fun _ q => (by rw [show D 9 = false from q] at d9; cases d9)⟩⟩
      case fin =>
        intro D a w hI hall
        obtain ⟨u, rfl, hT, hW⟩ := hI
        have hbk := hW.blk
        rw [hall 12 (by decide)] at hbk
        have hl1 := hW.l1 (hall 9 (by decide))
        have ht : X ++ [(⟨p, p, false⟩ : Sec)] = (pss.take (k + 1)).map secOf := HT.out
        rw [ht] at hl1
        have HF := Lib.hid (show Blk w w0.heap.size 43 #[u 35, .bool false, .bool false, .int .i64 0, .int .i64 0] ∧ SOwn w w0.heap.size (u 35) ((pss.take (k + 1)).map secOf) ∧ Below w0.heap.size w0 w from ⟨hbk, hl1, hW.bel⟩)
        clear hbk hl1 hW hT ht hall
        go_wp2
        exact ⟨⟨k + 1, u 35, hlt, by go_num, HF.out⟩, by simp [intOf]; omega⟩
    · obtain rfl : k = pss.length := by omega
      have hkI : ¬ (pss.length : Int) < (pss.length : Int) := by omega
      rw [List.take_length] at hL
      have e1 : (ofD pss).l = pss.map secOf := rfl
      have e2 : (pss.map secOf).length = pss.length := by simp
      have hll : ∀ s ∈ pss.map secOf, s.now.length = 64 ∧ s.kept.length = 64 := fun s hs => by
        obtain ⟨p, hp, rfl⟩ := List.mem_map.1 hs
        exact ⟨(HH.out p hp).1, (HH.out p hp).1⟩
      obtain ⟨gb, cb, rfl, hgb, hcb, hsr⟩ : ∃ gb cb, vL = Value.slice (some ⟨gb, 0, none⟩) pss.length cb ∧ w0.heap.size ≤ gb ∧ (pss.length ≤ cb ∧ cb ≤ 9223372036854775807) ∧ SRow wr gb (pss.map secOf) := by
        rcases hL.2 with ⟨_, e⟩ | ⟨g, c, cur, e, hg, hh, hnc, hcm, hcs, ht⟩
        · rw [e2] at e; omega
        · rw [e2] at e hnc
          refine ⟨g, c, e, hg, ⟨hnc, by unfold maxLen at hcm; exact hcm⟩, SRow.ofCells (show Blk wr g _ cur from hh) hll fun j u hj => ?_⟩
          rw [← ht, List.getElem?_take] at hj
          split at hj
          · rw [← Array.getElem?_toList]; exact hj
          · cases hj
      have HF := Lib.hid (show Dev wr w0.heap.size gb (ofD pss) from ⟨⟨cb, by rw [e1, e2]; exact hcb.1, hcb.2, by rw [e1, e2]; exact hY⟩, hsr, by rw [e1, e2]; exact ⟨h1, h2⟩, fun s hs => by
        obtain ⟨p, hp, rfl⟩ := List.mem_map.1 hs
        have hh := HH.out p hp
        exact ⟨hh.1, hh.1, hh.2, hh.2, fun _ => rfl⟩⟩)
      have HB := Lib.hid hb
      have HG := Lib.hid hgb
      clear hY hL hb hsr hll hgb
      go_wp2
      go_ret2
      exact ⟨_, rfl, Nat.le_refl _, gb, HG.out, HF.out, HB.out⟩

end Go.Proofs.YtgfkejecigefbaaDoor

namespace Go.Proofs.YtgfkejecigefbaaDoor
open Go.RowKit
set_option linter.unusedVariables false

set_option maxRecDepth 100000 in
set_option maxHeartbeats 1000000 in
theorem dof_bad (v : Value) (pss : List (List Int)) (w0 : World) (hv : Sls w0 v pss) (h1 : 1 ≤ pss.length) (h2 : pss.length ≤ 16384) (hl : ∃ p ∈ pss, p.length ≠ 64) :
    Calls Tryd.prog 22 #[v] w0 fun e w' => e = .returned (.tuple #[.pointer none, .int .i64 1]) ∧ Below w0.heap.size w0 w' := by
  have HV := Lib.hid hv
  obtain ⟨va, vc, rfl, hvc, hvm⟩ := hv.shape
  have HM := Lib.hid (dmay_any pss.length w0)
  rw [show mayD pss.length = true from decide_eq_true (by omega)] at HM
  have hbA : Below w0.heap.size w0 (w0.alloc (.cells #[.slice none 0 0, .bool false, .bool false, .int .i64 0, .int .i64 0] 43)) := (Below.refl _ _).alloc (Nat.le_refl _) _
  have kA := Blk.new w0 43 #[.slice none 0 0, .bool false, .bool false, .int .i64 0, .int .i64 0]
  have HBA := Lib.hid hbA
  have HKA := Lib.hid kA
  have HH := Lib.hid hl
  clear hv hbA kA hl
  go_enter Tryd.func22, Tryd.ntmps22
  go_wp2_with fail
  refine HM.out.mono ?_
  rintro e w1 ⟨rfl, rfl⟩
  go_upto_region 5 with (fail)
  generalize (w0.alloc (.cells #[.slice none 0 0, .bool false, .bool false, .int .i64 0, .int .i64 0] 43)) = wA at *
  go_loopw [16] (fun i wr => ∃ (k : Nat) (vL : Value), k ≤ pss.length ∧ i = .int .i64 k ∧ Blk wr w0.heap.size 43 #[vL, .bool false, .bool false, .int .i64 0, .int .i64 0] ∧ SOwn wr w0.heap.size vL ((pss.take k).map secOf) ∧ Below w0.heap.size w0 wr ∧ Hid (∀ p ∈ pss.take k, p.length = 64)) (fun i _ => pss.length - (intOf i).toNat)
  case atStart => exact ⟨0, _, by omega, rfl, HKA.out, World.ownsRow_nil _ _ _ _, HBA.out, (by simp [Hid])⟩
  case round =>
    obtain ⟨k, vL, hk, rfl, hY, hL, hb, H64⟩ := hrel
    by_cases hlt : k < pss.length
    · have hkI : (k : Int) < (pss.length : Int) := by omega
      obtain ⟨b, off, rfl, hbb, uu, hcu, hu⟩ := HV.out.at hlt
      have hcu := (hb.cell (p := ⟨b, off + k, none⟩) hbb).trans hcu
      rw [show pss.getD k [] = pss[k] from by rw [List.getD_eq_getElem?_getD, List.getElem?_eq_getElem hlt]; rfl] at hu
      have HT2 := Lib.hid (show pss.take k ++ [pss[k]] = pss.take (k + 1) from by rw [List.take_append_getElem])
      have ht : (pss.take k).map secOf ++ [secOf pss[k]] = (pss.take (k + 1)).map secOf := by rw [List.map_take, List.map_take, show secOf pss[k] = (pss.map secOf)[k]'(by simpa using hlt) from by simp, List.take_append_getElem]
      have hX : ((pss.take k).map secOf).length = k := by simp; omega
      generalize pss[k] = p at *
      generalize (pss.take k).map secOf = X at *
      by_cases hp64 : p.length = 64
      rotate_left
      · obtain ⟨ta, tc, rfl, htc, htm⟩ := hu.shape
        rw [List.length_map] at hcu
        have hln : ((p.length : Int) != 64) = true := by rw [bne_iff_ne]; omega
        have HB := Lib.hid hb
        clear hY hL hb hu hp64 htc htm ht hX
        go_wp2
        go_ret2
        exact ⟨rfl, HB.out⟩
      obtain ⟨ta, tc, rfl, htc, htm⟩ := hu.shape
      obtain ⟨tb, to_, rfl, htb, hcl⟩ := hu.ints (k := 0) (by omega)
      have hrg : wr.rangeAt tb to_ (p.map (Value.int .u8)) := fun m u hm => by
        have hmp : m < p.length := by have := (List.getElem?_eq_some_iff.1 hm).1; simpa using this
        rw [hb.cell (p := ⟨tb, to_ + m, none⟩) htb, hcl m hmp, ← hm, List.getElem?_map, List.getElem?_eq_getElem hmp, List.getD_eq_getElem?_getD, List.getElem?_eq_getElem hmp]; rfl
      have HP := Lib.hid hp64
      rw [List.length_map, hp64] at hcu htc
      have HRG := Lib.hid hrg
      have HT := Lib.hid ht
      have HY := Lib.hid hY
      have HL := Lib.hid hL
      have HX := Lib.hid hX
      have HBR := Lib.hid hb
      clear hu hp64 hcl hrg ht hY hL hX hb
      have hsa := fun w' => run_toArray tb to_ tc w'
      go_upto_region 10 with (first
        | (with_reducible refine wpList_load_mid rfl _ _ rfl tb to_ rfl (p.map (Value.int .u8)) _ HRG.out Tryd.underlying85 rfl (size64L HP.out) ?_)
        | (refine wpList_allocTo rfl _ rfl (.pointer (some ⟨wr.heap.size, 0, none⟩)) (.cells z64 85) (by kernel_rfl) ?_)
        | (refine wpList_store_row rfl 85 _ _ rfl wr.heap.size (p.map (Value.int .u8)).toArray rfl rfl 85 z64 (heap_alloc_new _ _) (by rw [List.size_toArray]; exact size64L HP.out) (by simp [z64, HP.out]) (all_oneCell_toArray (oneB _)) ?_))
      generalize hwS : (World.setRow (wr.alloc _) wr.heap.size _) = wS
      have kS : Blk wS wr.heap.size 85 (p.map (Value.int .u8)).toArray := by rw [← hwS]; exact setRow_heap _ _ _ _ _ _ (heap_alloc_new _ _)
      have hbS : Below wr.heap.size wr wS := by
        rw [← hwS]
        exact ⟨rfl, rfl, rfl, by simp, fun k hk => (setRow_other _ _ _ _ (by omega)).trans (Below.heap_alloc _ _ _ hk)⟩
      have hYS := HY.out.belowS hbS
      have hLS := HL.out.below hbS
      have hBS := below_trans2 HBR.out hbS
      clear hwS
      refine wp_region_inv2 (dzInv w0.heap.size wr.heap.size vL X p w0 (.slice (some ⟨b, off, none⟩) pss.length vc) undef u2 u3 undef (.slice (some ⟨tb, to_, none⟩) 64 tc) (.slice (some ⟨b, off, none⟩) pss.length vc) (.int .i64 pss.length) (.bool true) (.bool false) (.agg #[.slice none 0 0, .bool false, .bool false, .int .i64 0, .int .i64 0]) (.pointer (some ⟨w0.heap.size, 0, none⟩)) (.slice (some ⟨b, off, none⟩) pss.length vc) (.int .i64 pss.length) (.int .i64 k) (.bool true) (.pointer (some ⟨b, off + k, none⟩)) (.slice (some ⟨tb, to_, none⟩) 64 tc) (.slice (some ⟨tb, to_, none⟩) 64 tc) (.int .i64 64) (.bool false) (.slice (some ⟨tb, to_, none⟩) 64 tc) (.pointer (some ⟨tb, to_, none⟩)) u38 undef) (by kernel_rfl) (by kernel_rfl) ?start ?step ?fin
      case start =>
        refine ⟨fun k => (#[u26, u27, u28, u29, u30, u31, u32, u33, u34, u35, u36, u37] : Array Value).getD (k - 26) undef, rfl, ?_, ?_⟩
        · exact ⟨(fun q => by cases q), (fun q => by cases q), (fun q => by cases q), (fun q => by cases q), (fun q => by cases q), (fun q => by cases q), (fun q => by cases q), (fun q => by cases q), (fun q => by cases q), (fun q => by cases q)⟩
        · exact ⟨hYS, hBS.drew, kS, fun _ => hLS, (fun q => by cases q), (fun q => by cases q)⟩
      case step =>
        intro D a w i hi hI hD hcl hn
        obtain ⟨u, rfl, hT, hW⟩ := hI
        have hi' : i < 13 := hi
        clear hi
        rcases (show i = 0 ∨ i = 1 ∨ i = 2 ∨ i = 3 ∨ i = 4 ∨ i = 5 ∨ i = 6 ∨ i = 7 ∨ i = 8 ∨ i = 9 ∨ i = 10 ∨ i = 11 ∨ i = 12 from by omega) with rfl | rfl | rfl | rfl | rfl | rfl | rfl | rfl | rfl | rfl | rfl | rfl | rfl
        · refine wpOp_plain rfl rfl ?_
          go_simp
          exact ⟨upd u 26 (.pointer (some ⟨w0.heap.size, 0, none⟩)), rfl, ⟨fun _ => rfl, fun h => hT.s1 h, fun h => hT.s2 h, fun h => hT.s3 h, fun h => hT.s4 h, fun h => hT.s5 h, fun h => hT.s6 h, fun h => hT.s7 h, fun h => hT.s10 h, fun h => hT.s11 h⟩, ⟨hW.blk, hW.bel, hW.kS, hW.l0, hW.l1, hW.a8⟩⟩
        · refine wpOp_plain rfl rfl ?_
          go_simp
          exact ⟨upd u 27 (.pointer (some ⟨w0.heap.size, 0, none⟩)), rfl, ⟨fun h => hT.s0 h, fun _ => rfl, fun h => hT.s2 h, fun h => hT.s3 h, fun h => hT.s4 h, fun h => hT.s5 h, fun h => hT.s6 h, fun h => hT.s7 h, fun h => hT.s10 h, fun h => hT.s11 h⟩, ⟨hW.blk, hW.bel, hW.kS, hW.l0, hW.l1, hW.a8⟩⟩
        · have d1 : D 1 = true := hn 1 (needs_b (by kernel_rfl))
          have e27 := hT.s1 d1
          refine wpOp_plain rfl rfl ?_
          go_simp
          exact ⟨upd u 28 (.pointer (some ⟨w0.heap.size, 0, none⟩)), by first | rfl | simp [upd, e27], ⟨fun h => hT.s0 h, fun h => hT.s1 h, fun _ => rfl, fun h => hT.s3 h, fun h => hT.s4 h, fun h => hT.s5 h, fun h => hT.s6 h, fun h => hT.s7 h, fun h => hT.s10 h, fun h => hT.s11 h⟩, ⟨hW.blk, hW.bel, hW.kS, hW.l0, hW.l1, hW.a8⟩⟩
        · have d2 : D 2 = true := hn 2 (needs_b (by kernel_rfl))
          have e28 := hT.s2 d2
          refine wpOp_plain rfl rfl ?_
          go_simp
          exact ⟨upd u 29 (.pointer (some ⟨w0.heap.size, 0, none⟩)), by first | rfl | simp [upd, e28], ⟨fun h => hT.s0 h, fun h => hT.s1 h, fun h => hT.s2 h, fun _ => rfl, fun h => hT.s4 h, fun h => hT.s5 h, fun h => hT.s6 h, fun h => hT.s7 h, fun h => hT.s10 h, fun h => hT.s11 h⟩, ⟨hW.blk, hW.bel, hW.kS, hW.l0, hW.l1, hW.a8⟩⟩
        · have d3 : D 3 = true := hn 3 (needs_b (by kernel_rfl))
          have e29 := hT.s3 d3
          have n1 : D 12 = false := by
            cases q : D 12 with
            | false => rfl
            | true => have := hcl 9 4 (hcl 12 9 q (needs_b (by kernel_rfl))) (needs_b (by kernel_rfl)); rw [hD] at this; cases this
          have c0 : w.cell? ⟨w0.heap.size, 0, none⟩ = some vL := (hW.blk.cell 0).trans (by simp [n1])
          refine wpOp_plain rfl rfl ?_
          go_simp
          exact ⟨upd u 30 (vL), by first | rfl | simp [upd, e29], ⟨fun h => hT.s0 h, fun h => hT.s1 h, fun h => hT.s2 h, fun h => hT.s3 h, fun _ => rfl, fun h => hT.s5 h, fun h => hT.s6 h, fun h => hT.s7 h, fun h => hT.s10 h, fun h => hT.s11 h⟩, ⟨hW.blk, hW.bel, hW.kS, hW.l0, hW.l1, hW.a8⟩⟩
        · have hrgS : w.rangeAt wr.heap.size 0 (p.map (Value.int .u8)) := fun m u hm => by rw [Nat.zero_add, hW.kS.cell, List.getElem?_toArray]; exact hm
          refine wpOp_plain rfl rfl ?_
          refine wp_load_mid _ _ rfl wr.heap.size 0 rfl (p.map (Value.int .u8)) _ hrgS Tryd.underlying85 rfl (size64L HP.out) ?_
          exact ⟨upd u 31 (.agg (p.map (Value.int .u8)).toArray), rfl, ⟨fun h => hT.s0 h, fun h => hT.s1 h, fun h => hT.s2 h, fun h => hT.s3 h, fun h => hT.s4 h, fun _ => rfl, fun h => hT.s6 h, fun h => hT.s7 h, fun h => hT.s10 h, fun h => hT.s11 h⟩, ⟨hW.blk, hW.bel, hW.kS, hW.l0, hW.l1, hW.a8⟩⟩
        · have hrgS : w.rangeAt wr.heap.size 0 (p.map (Value.int .u8)) := fun m u hm => by rw [Nat.zero_add, hW.kS.cell, List.getElem?_toArray]; exact hm
          refine wpOp_plain rfl rfl ?_
          refine wp_load_mid _ _ rfl wr.heap.size 0 rfl (p.map (Value.int .u8)) _ hrgS Tryd.underlying85 rfl (size64L HP.out) ?_
          exact ⟨upd u 32 (.agg (p.map (Value.int .u8)).toArray), rfl, ⟨fun h => hT.s0 h, fun h => hT.s1 h, fun h => hT.s2 h, fun h => hT.s3 h, fun h => hT.s4 h, fun h => hT.s5 h, fun _ => rfl, fun h => hT.s7 h, fun h => hT.s10 h, fun h => hT.s11 h⟩, ⟨hW.blk, hW.bel, hW.kS, hW.l0, hW.l1, hW.a8⟩⟩
        · have d5 : D 5 = true := hn 5 (needs_b (by kernel_rfl))
          have d6 : D 6 = true := hn 6 (needs_b (by kernel_rfl))
          have e31 := hT.s5 d5
          have e32 := hT.s6 d6
          have hbu : Tryd.prog.built 87 ((#[(0, .tmp 31), (1, .tmp 32)] : Array (Nat × Operand)).map fun (i, x) => (i, (dzAct w0.heap.size wr.heap.size p (.slice (some ⟨b, off, none⟩) pss.length vc) undef u2 u3 undef (.slice (some ⟨tb, to_, none⟩) 64 tc) (.slice (some ⟨b, off, none⟩) pss.length vc) (.int .i64 pss.length) (.bool true) (.bool false) (.agg #[.slice none 0 0, .bool false, .bool false, .int .i64 0, .int .i64 0]) (.pointer (some ⟨w0.heap.size, 0, none⟩)) (.slice (some ⟨b, off, none⟩) pss.length vc) (.int .i64 pss.length) (.int .i64 k) (.bool true) (.pointer (some ⟨b, off + k, none⟩)) (.slice (some ⟨tb, to_, none⟩) 64 tc) (.slice (some ⟨tb, to_, none⟩) 64 tc) (.int .i64 64) (.bool false) (.slice (some ⟨tb, to_, none⟩) 64 tc) (.pointer (some ⟨tb, to_, none⟩)) u38 undef u).eval x)).toList = some (secArr ⟨p, p, false⟩) := by
            rw [List.map_toArray]
            show Tryd.prog.built _ [(0, u 31), (1, u 32)] = _
            rw [e31, e32]
            exact built_sec p HP.out
          refine wpOp_plain rfl rfl ?_
          refine wp_build _ _ rfl (by rw [hbu]; rfl) ?_
          rw [hbu]
          exact ⟨upd u 33 (.agg (secArr ⟨p, p, false⟩)), rfl, ⟨fun h => hT.s0 h, fun h => hT.s1 h, fun h => hT.s2 h, fun h => hT.s3 h, fun h => hT.s4 h, fun h => hT.s5 h, fun h => hT.s6 h, fun _ => rfl, fun h => hT.s10 h, fun h => hT.s11 h⟩, ⟨hW.blk, hW.bel, hW.kS, hW.l0, hW.l1, hW.a8⟩⟩
        · have d7 : D 7 = true := hn 7 (needs_b (by kernel_rfl))
          have e33 := hT.s7 d7
          obtain ⟨i0, hi0, hz0, hz1, hz2⟩ := info_parts infoSec
          have hfl : Instr.fill (fun i => some (i * i0.size, i0.size)) ((Array.range (1 * i0.size)).map ((Value.agg zeroSC).cells[· % (Value.agg zeroSC).cells.size]!)) ((#[(0, .tmp 33)] : Array (Nat × Operand)).map fun (i, x) => (i, (dzAct w0.heap.size wr.heap.size p (.slice (some ⟨b, off, none⟩) pss.length vc) undef u2 u3 undef (.slice (some ⟨tb, to_, none⟩) 64 tc) (.slice (some ⟨b, off, none⟩) pss.length vc) (.int .i64 pss.length) (.bool true) (.bool false) (.agg #[.slice none 0 0, .bool false, .bool false, .int .i64 0, .int .i64 0]) (.pointer (some ⟨w0.heap.size, 0, none⟩)) (.slice (some ⟨b, off, none⟩) pss.length vc) (.int .i64 pss.length) (.int .i64 k) (.bool true) (.pointer (some ⟨b, off + k, none⟩)) (.slice (some ⟨tb, to_, none⟩) 64 tc) (.slice (some ⟨tb, to_, none⟩) 64 tc) (.int .i64 64) (.bool false) (.slice (some ⟨tb, to_, none⟩) 64 tc) (.pointer (some ⟨tb, to_, none⟩)) u38 undef u).eval x)).toList = some (secArr ⟨p, p, false⟩) := by
            rw [List.map_toArray (l := [(0, Operand.tmp 33)])]
            show Instr.fill _ _ [(0, u 33)] = _
            rw [e33]
            exact fill_row ⟨p, p, false⟩ ⟨HP.out, HP.out⟩ i0.size hz1
          have hb2 : Below w.heap.size w (w.alloc (.cells (secArr ⟨p, p, false⟩) 87)) := (Below.refl _ _).alloc (Nat.le_refl _) _
          have kb := Blk.new w 87 (secArr ⟨p, p, false⟩)
          refine wpOp_plain rfl rfl ?_
          refine wp_buildSlice 41 87 1 _ rfl (secArr ⟨p, p, false⟩) i0 (.agg zeroSC) Tryd.underlying41 hi0 hz0 (by rw [hz1]; omega) (by rw [hz1]; omega) hfl ?_
          exact ⟨upd u 34 (.slice (some ⟨w.heap.size, 0, none⟩) 1 1), rfl, ⟨fun h => hT.s0 h, fun h => hT.s1 h, fun h => hT.s2 h, fun h => hT.s3 h, fun h => hT.s4 h, fun h => hT.s5 h, fun h => hT.s6 h, fun h => hT.s7 h, fun h => hT.s10 h, fun h => hT.s11 h⟩, ⟨hW.blk.belowS hb2, below_trans2 hW.bel hb2, hW.kS.belowS hb2, fun q => (hW.l0 q).below hb2, fun q => (hW.l1 q).below hb2, fun _ _ => ⟨w.heap.size, rfl, kb⟩⟩⟩
        · have d4 : D 4 = true := hn 4 (needs_b (by kernel_rfl))
          have d8 : D 8 = true := hn 8 (needs_b (by kernel_rfl))
          have e30 := hT.s4 d4
          obtain ⟨b8, e34, kb⟩ := hW.a8 d8 hD
          have hOL := hW.l0 hD
          have n12 : D 12 = false := by
            cases q : D 12 with
            | false => rfl
            | true => have := hcl 12 9 q (needs_b (by kernel_rfl)); rw [hD] at this; cases this
          refine wpOp_step rfl rfl (step_append_sec rfl (.tmp 30) (.tmp 34) rfl w0.heap.size vL X e30 hOL b8 e34 ⟨p, p, false⟩ ⟨HP.out, HP.out⟩ (fun j u hj => by rw [kb.cell, secArr, List.getElem?_toArray]; exact hj) (by rw [HX.out]; omega) hW.bel.size ?_)
          intro v2 w2 hx hg2
          have ho := Only.of_grownO hg2
          have typ : ∀ g ∈ vL.ownBlock.toList, ∃ cur, Blk w g 87 cur := fun g hg => owns_blk hOL (by simpa using hg)
          have hyn : w0.heap.size ∉ vL.ownBlock.toList := fun hm => by
            obtain ⟨cur2, k2⟩ := typ _ hm
            exact Blk.ne_ hW.blk k2 (by decide) rfl
          have hsn : wr.heap.size ∉ vL.ownBlock.toList := fun hm => by
            obtain ⟨cur2, k2⟩ := typ _ hm
            exact Blk.ne_ hW.kS k2 (by decide) rfl
          have hb2 : Below w0.heap.size w w2 := (Below.refl _ _).grown hg2 hW.bel.size (fun k hk => (World.ownsRow.lt hOL k hk).1)
          exact ⟨upd u 35 v2, rfl, ⟨fun h => hT.s0 h, fun h => hT.s1 h, fun h => hT.s2 h, fun h => hT.s3 h, fun h => hT.s4 h, fun h => hT.s5 h, fun h => hT.s6 h, fun h => hT.s7 h, fun h => hT.s10 h, fun h => hT.s11 h⟩, ⟨by have h := ho.blk hW.blk hyn; rw [n12] at h; show Blk _ _ _ #[cond (D 12) v2 vL, _, _, _, _]; rw [n12]; exact h, hW.bel.trans hb2, ho.blk hW.kS hsn, fun q => (by cases q), fun _ => hx, fun _ q => (by cases q)⟩⟩
        · have d0 : D 0 = true := hn 0 (needs_b (by kernel_rfl))
          have e26 := hT.s0 d0
          refine wpOp_plain rfl rfl ?_
          go_simp
          exact ⟨upd u 36 (.pointer (some ⟨w0.heap.size, 0, none⟩)), by first | rfl | simp [upd, e26], ⟨fun h => hT.s0 h, fun h => hT.s1 h, fun h => hT.s2 h, fun h => hT.s3 h, fun h => hT.s4 h, fun h => hT.s5 h, fun h => hT.s6 h, fun h => hT.s7 h, fun _ => rfl, fun h => hT.s11 h⟩, ⟨hW.blk, hW.bel, hW.kS, hW.l0, hW.l1, hW.a8⟩⟩
        · have d10 : D 10 = true := hn 10 (needs_b (by kernel_rfl))
          have e36 := hT.s10 d10
          refine wpOp_plain rfl rfl ?_
          go_simp
          exact ⟨upd u 37 (.pointer (some ⟨w0.heap.size, 0, none⟩)), by first | rfl | simp [upd, e36], ⟨fun h => hT.s0 h, fun h => hT.s1 h, fun h => hT.s2 h, fun h => hT.s3 h, fun h => hT.s4 h, fun h => hT.s5 h, fun h => hT.s6 h, fun h => hT.s7 h, fun h => hT.s10 h, fun _ => rfl⟩, ⟨hW.blk, hW.bel, hW.kS, hW.l0, hW.l1, hW.a8⟩⟩
        · have d9 : D 9 = true := hn 9 (needs_b (by kernel_rfl))
          have d11 : D 11 = true := hn 11 (needs_b (by kernel_rfl))
          have e37 := hT.s11 d11
          have hx := hW.l1 d9
          obtain ⟨g3, c3, e35⟩ : ∃ a c, u 35 = Value.slice a (X ++ [(⟨p, p, false⟩ : Sec)]).length c := by
            rcases World.ownsRow.form hx (by simp) with ⟨g3, c3, e, _⟩
            exact ⟨_, _, e⟩
          have c0 : w.cell? ⟨w0.heap.size, 0, none⟩ = some vL := (hW.blk.cell 0).trans (by simp [hD])
          have f0 := hW.blk.frozen 0
          have ho : Only [w0.heap.size] w (w.setCell ⟨w0.heap.size, 0, none⟩ (.slice g3 (X ++ [(⟨p, p, false⟩ : Sec)]).length c3)) := Only.setCell _ _ (by simp) _
          have hbk := hW.blk.set_ 0 (.slice g3 (X ++ [(⟨p, p, false⟩ : Sec)]).length c3)
          have hsn : wr.heap.size ∉ [w0.heap.size] := fun hm => Blk.ne_ hW.kS hW.blk (by decide) (by simpa using hm)
          have hx2 : SOwn (w.setCell ⟨w0.heap.size, 0, none⟩ (.slice g3 (X ++ [(⟨p, p, false⟩ : Sec)]).length c3)) w0.heap.size (u 35) (X ++ [(⟨p, p, false⟩ : Sec)]) := ho.owns hx fun g hg hm => by
            obtain ⟨cur, k⟩ := owns_blk hx hg
            obtain rfl : g = w0.heap.size := by simpa using hm
            exact Blk.ne_ k hW.blk (by decide) rfl
          refine wpOp_plain rfl rfl ?_
          generalize (X ++ [(⟨p, p, false⟩ : Sec)]).length = lenX at *
          go_simp
          exact ⟨u, by first | rfl | simp [e35, e37], ⟨fun h => hT.s0 h, fun h => hT.s1 h, fun h => hT.s2 h, fun h => hT.s3 h, fun h => hT.s4 h, fun h => hT.s5 h, fun h => hT.s6 h, fun h => hT.s7 h, fun h => hT.s10 h, fun h => hT.s11 h⟩, ⟨by show Blk _ _ _ #[u 35, .bool false, .bool false, .int .i64 0, .int .i64 0]; rw [e35]; exact hbk, Only.belowOf hW.bel ho hW.bel.size (by simp), ho.blk hW.kS hsn, fun q => (by rw [show D 9 = false from q] at d9; cases d9), fun _ => hx2, fun _ q => (by rw [show D 9 = false from q] at d9; cases d9)⟩⟩
      case fin =>
        intro D a w hI hall
        obtain ⟨u, rfl, hT, hW⟩ := hI
        have hbk := hW.blk
        rw [hall 12 (by decide)] at hbk
        have hl1 := hW.l1 (hall 9 (by decide))
        have ht : X ++ [(⟨p, p, false⟩ : Sec)] = (pss.take (k + 1)).map secOf := HT.out
        rw [ht] at hl1
        have HF := Lib.hid (show Blk w w0.heap.size 43 #[u 35, .bool false, .bool false, .int .i64 0, .int .i64 0] ∧ SOwn w w0.heap.size (u 35) ((pss.take (k + 1)).map secOf) ∧ Below w0.heap.size w0 w from ⟨hbk, hl1, hW.bel⟩)
        clear hbk hl1 hW hT ht hall
        go_wp2
        exact ⟨⟨k + 1, u 35, hlt, by go_num, HF.out.1, HF.out.2.1, HF.out.2.2, (by rw [← HT2.out]; intro q hq; rcases List.mem_append.1 hq with hq | hq; exact H64.out q hq; rw [List.mem_singleton.1 hq]; exact HP.out)⟩, by simp [intOf]; omega⟩
    · obtain rfl : k = pss.length := by omega
      have hkI : ¬ (pss.length : Int) < (pss.length : Int) := by omega
      have h64 := H64.out
      rw [List.take_length] at h64
      obtain ⟨p, hp, hq⟩ := HH.out
      exact absurd (h64 p hp) hq

end Go.Proofs.YtgfkejecigefbaaDoor

namespace Go.Proofs.YtgfkejecigefbaaDoor
open Go.RowKit
set_option linter.unusedVariables false

set_option maxRecDepth 100000 in
set_option maxHeartbeats 400000 in
theorem rof_no (v : Value) (pss : List (List Int)) (w : World) (hv : Sls w v pss) (h : ¬ (1 ≤ pss.length ∧ pss.length ≤ 16384)) :
    Calls Tryd.prog 23 #[v] w fun e w' => e = .returned (.tuple #[.pointer none, .int .i64 1]) ∧ w = w' := by
  obtain ⟨va, vc, rfl, hvc, hvm⟩ := hv.shape
  by_cases h1 : pss.length < 1
  · have hI1 : (pss.length : Int) < 1 := by omega
    clear hv h h1
    go_enter Tryd.func23, Tryd.ntmps23
    go_wp2
    go_ret2
    exact ⟨rfl, rfl⟩
  · have hI1 : ¬ (pss.length : Int) < 1 := by omega
    have hI2 : (16384 : Int) < (pss.length : Int) := by omega
    clear hv h h1
    go_enter Tryd.func23, Tryd.ntmps23
    go_wp2
    go_ret2
    exact ⟨rfl, rfl⟩

end Go.Proofs.YtgfkejecigefbaaDoor

namespace Go.Proofs.YtgfkejecigefbaaDoor
open Go.RowKit
set_option linter.unusedVariables false

set_option maxRecDepth 100000 in
set_option maxHeartbeats 4000000 in
theorem rof_bad (v : Value) (pss : List (List Int)) (w0 : World) (hv : Sls w0 v pss) (h1 : 1 ≤ pss.length) (h2 : pss.length ≤ 16384) (hl : ∃ p ∈ pss, p.length ≠ 64) :
    Calls Tryd.prog 23 #[v] w0 fun e w' => e = .returned (.tuple #[.pointer none, .int .i64 1]) ∧ Below w0.heap.size w0 w' := by
  have HV := Lib.hid hv
  obtain ⟨va, vc, rfl, hvc, hvm⟩ := hv.shape
  have hbA : Below w0.heap.size w0 (w0.alloc (.cells #[.slice none 0 0, .slice none 0 0, .slice none 0 0, .int .i64 (-1), .bool false, .int .i64 0] 92)) := (Below.refl _ _).alloc (Nat.le_refl _) _
  have kA := Blk.new w0 92 #[.slice none 0 0, .slice none 0 0, .slice none 0 0, .int .i64 (-1), .bool false, .int .i64 0]
  have HBA := Lib.hid hbA
  have HKA := Lib.hid kA
  have HH := Lib.hid hl
  have hI1 : ¬ (pss.length : Int) < 1 := by omega
  have hI2 : ¬ (16384 : Int) < (pss.length : Int) := by omega
  clear hv hbA kA hl
  go_enter Tryd.func23, Tryd.ntmps23
  go_upto_region 5 with (fail)
  generalize (w0.alloc (.cells #[.slice none 0 0, .slice none 0 0, .slice none 0 0, .int .i64 (-1), .bool false, .int .i64 0] 92)) = wA at *
  go_loopw [19] (fun i wr => ∃ (k : Nat) (vL vK vW : Value), k ≤ pss.length ∧ i = .int .i64 k ∧ Blk wr w0.heap.size 92 #[vL, vK, vW, .int .i64 (-1), .bool false, .int .i64 0] ∧ OBs wr w0.heap.size vL (pss.take k) ∧ OBs wr w0.heap.size vK (pss.take k) ∧ wr.ownsRow w0.heap.size 4 1 vW k (List.replicate k (.bool false)) ∧ (∀ g, vL.ownBlock = some g → vK.ownBlock ≠ some g) ∧ Below w0.heap.size w0 wr ∧ (∀ p ∈ pss.take k, p.length = 64)) (fun i _ => pss.length - (intOf i).toNat)
  case atStart => exact ⟨0, _, _, _, by omega, rfl, HKA.out, OBs.nil _ _, OBs.nil _ _, World.ownsRow_nil _ _ _ _, fun g hg => (by cases hg), HBA.out, (by simp)⟩
  case round =>
    obtain ⟨k, vL, vK, vW, hk, rfl, hY, hL, hK, hW, hsep, hb, h64⟩ := hrel
    by_cases hlt : k < pss.length
    · have hkI : (k : Int) < (pss.length : Int) := by omega
      obtain ⟨b, off, rfl, hbb, uu, hcu, hu⟩ := HV.out.at hlt
      have hcu := (hb.cell (p := ⟨b, off + k, none⟩) hbb).trans hcu
      rw [show pss.getD k [] = pss[k] from by rw [List.getD_eq_getElem?_getD, List.getElem?_eq_getElem hlt]; rfl] at hu
      have ht : pss.take k ++ [pss[k]] = pss.take (k + 1) := by rw [List.take_append_getElem]
      have H64 := Lib.hid h64
      clear h64
      generalize pss[k] = p at *
      by_cases hp64 : p.length = 64
      rotate_left
      · obtain ⟨ta, tc, rfl, htc, htm⟩ := hu.shape
        rw [List.length_map] at hcu
        have hln : ((p.length : Int) != 64) = true := by rw [bne_iff_ne]; omega
        have HB := Lib.hid hb
        clear hY hL hK hW hsep hb hu hp64 htc htm
        go_wp2
        go_ret2
        exact ⟨rfl, HB.out⟩
      obtain ⟨ta, tc, rfl, htc, htm⟩ := hu.shape
      have HP := Lib.hid hp64
      rw [List.length_map, hp64] at hcu hu htc
      have HS := Lib.hid hu
      clear hu hp64
      go_upto_region 9 with (fail)
      have hX : (pss.take k).length ≤ 16384 := by rw [List.length_take]; omega
      have HT := Lib.hid ht
      generalize pss.take k = X at *
      refine wp_region_inv2 (ofInv w0.heap.size k vL vK vW X p w0 ta tc (.slice (some ⟨b, off, none⟩) pss.length vc) undef u2 u3 undef (.slice (some ⟨b, off, none⟩) pss.length vc) (.int .i64 pss.length) (.bool false) (.bool false) (.slice (some ⟨b, off, none⟩) pss.length vc) (.int .i64 pss.length) (.bool false) (.bool false) (.agg #[.slice none 0 0, .slice none 0 0, .slice none 0 0, .int .i64 (-1), .bool false, .int .i64 0]) (.pointer (some ⟨w0.heap.size, 0, none⟩)) (.slice (some ⟨b, off, none⟩) pss.length vc) (.int .i64 pss.length) (.int .i64 k) (.bool true) (.pointer (some ⟨b, off + k, none⟩)) (.slice ta 64 tc) (.slice ta 64 tc) (.int .i64 64) (.bool false) u59 undef) (by kernel_rfl) (by kernel_rfl) ?start ?step ?fin
      case start =>
        refine ⟨fun k => (#[u26, u27, u28, u29, u30, u31, u32, u33, u34, u35, u36, u37, u38, u39, u40, u41, u42, u43, u44, u45, u46, u47, u48, u49, u50, u51, u52, u53, u54, u55, u56, u57, u58] : Array Value).getD (k - 26) undef, rfl, ?_, ?_⟩
        · exact ⟨(fun q => by cases q), (fun q => by cases q), (fun q => by cases q), (fun q => by cases q), (fun q => by cases q), (fun q => by cases q), (fun q => by cases q), (fun q => by cases q), (fun q => by cases q), (fun q => by cases q), (fun q => by cases q), (fun q => by cases q), (fun q => by cases q), (fun q => by cases q), (fun q => by cases q), (fun q => by cases q), (fun q => by cases q), (fun q => by cases q), (fun q => by cases q), (fun q => by cases q), (fun q => by cases q), (fun q => by cases q), (fun q => by cases q)⟩
        · exact ⟨hY, hb.drew, fun _ => hL.only (Only.refl [] wr).drew (by simp), (fun q => by cases q), fun _ => hK.only (Only.refl [] wr).drew (by simp), (fun q => by cases q), fun _ => hW, (fun q => by cases q), hsep, (fun q => by cases q), (fun q => by cases q), (fun q => by cases q), (fun q => by cases q), (fun q => by cases q), (fun q => by cases q), (fun q => by cases q)⟩
      case step =>
        intro D a w i hi hI hD hcl hn
        obtain ⟨u, rfl, hT, hW⟩ := hI
        have hi' : i < 36 := hi
        clear hi
        rcases (show i = 0 ∨ i = 1 ∨ i = 2 ∨ i = 3 ∨ i = 4 ∨ i = 5 ∨ i = 6 ∨ i = 7 ∨ i = 8 ∨ i = 9 ∨ i = 10 ∨ i = 11 ∨ i = 12 ∨ i = 13 ∨ i = 14 ∨ i = 15 ∨ i = 16 ∨ i = 17 ∨ i = 18 ∨ i = 19 ∨ i = 20 ∨ i = 21 ∨ i = 22 ∨ i = 23 ∨ i = 24 ∨ i = 25 ∨ i = 26 ∨ i = 27 ∨ i = 28 ∨ i = 29 ∨ i = 30 ∨ i = 31 ∨ i = 32 ∨ i = 33 ∨ i = 34 ∨ i = 35 from by omega) with rfl | rfl | rfl | rfl | rfl | rfl | rfl | rfl | rfl | rfl | rfl | rfl | rfl | rfl | rfl | rfl | rfl | rfl | rfl | rfl | rfl | rfl | rfl | rfl | rfl | rfl | rfl | rfl | rfl | rfl | rfl | rfl | rfl | rfl | rfl | rfl
        · refine wpOp_plain rfl rfl ?_
          go_simp
          exact ⟨upd u 26 (.pointer (some ⟨w0.heap.size, 0, none⟩)), rfl, ⟨fun _ => rfl, fun h => hT.s1 h, fun h => hT.s2 h, fun h => hT.s3 h, fun h => hT.s4 h, fun h => hT.s5 h, fun h => hT.s6 h, fun h => hT.s8 h, fun h => hT.s12 h, fun h => hT.s13 h, fun h => hT.s14 h, fun h => hT.s15 h, fun h => hT.s17 h, fun h => hT.s21 h, fun h => hT.s22 h, fun h => hT.s23 h, fun h => hT.s24 h, fun h => hT.s27 h, fun h => hT.s28 h, fun h => hT.s30 h, fun h => hT.s31 h, fun h => hT.s33 h, fun h => hT.s34 h⟩, ⟨hW.blk, hW.bel, hW.l0, hW.l1, hW.k0, hW.k1, hW.w0, hW.w1, hW.sep, hW.a7, hW.a9, hW.a10, hW.a16, hW.a18, hW.a19, hW.a25⟩⟩
        · refine wpOp_plain rfl rfl ?_
          go_simp
          exact ⟨upd u 27 (.pointer (some ⟨w0.heap.size, 0, none⟩)), rfl, ⟨fun h => hT.s0 h, fun _ => rfl, fun h => hT.s2 h, fun h => hT.s3 h, fun h => hT.s4 h, fun h => hT.s5 h, fun h => hT.s6 h, fun h => hT.s8 h, fun h => hT.s12 h, fun h => hT.s13 h, fun h => hT.s14 h, fun h => hT.s15 h, fun h => hT.s17 h, fun h => hT.s21 h, fun h => hT.s22 h, fun h => hT.s23 h, fun h => hT.s24 h, fun h => hT.s27 h, fun h => hT.s28 h, fun h => hT.s30 h, fun h => hT.s31 h, fun h => hT.s33 h, fun h => hT.s34 h⟩, ⟨hW.blk, hW.bel, hW.l0, hW.l1, hW.k0, hW.k1, hW.w0, hW.w1, hW.sep, hW.a7, hW.a9, hW.a10, hW.a16, hW.a18, hW.a19, hW.a25⟩⟩
        · refine wpOp_plain rfl rfl ?_
          go_simp
          exact ⟨upd u 28 (.pointer (some ⟨w0.heap.size, 0, none⟩)), rfl, ⟨fun h => hT.s0 h, fun h => hT.s1 h, fun _ => rfl, fun h => hT.s3 h, fun h => hT.s4 h, fun h => hT.s5 h, fun h => hT.s6 h, fun h => hT.s8 h, fun h => hT.s12 h, fun h => hT.s13 h, fun h => hT.s14 h, fun h => hT.s15 h, fun h => hT.s17 h, fun h => hT.s21 h, fun h => hT.s22 h, fun h => hT.s23 h, fun h => hT.s24 h, fun h => hT.s27 h, fun h => hT.s28 h, fun h => hT.s30 h, fun h => hT.s31 h, fun h => hT.s33 h, fun h => hT.s34 h⟩, ⟨hW.blk, hW.bel, hW.l0, hW.l1, hW.k0, hW.k1, hW.w0, hW.w1, hW.sep, hW.a7, hW.a9, hW.a10, hW.a16, hW.a18, hW.a19, hW.a25⟩⟩
        · refine wpOp_plain rfl rfl ?_
          go_simp
          exact ⟨upd u 29 (.pointer (some ⟨w0.heap.size, 0, none⟩)), rfl, ⟨fun h => hT.s0 h, fun h => hT.s1 h, fun h => hT.s2 h, fun _ => rfl, fun h => hT.s4 h, fun h => hT.s5 h, fun h => hT.s6 h, fun h => hT.s8 h, fun h => hT.s12 h, fun h => hT.s13 h, fun h => hT.s14 h, fun h => hT.s15 h, fun h => hT.s17 h, fun h => hT.s21 h, fun h => hT.s22 h, fun h => hT.s23 h, fun h => hT.s24 h, fun h => hT.s27 h, fun h => hT.s28 h, fun h => hT.s30 h, fun h => hT.s31 h, fun h => hT.s33 h, fun h => hT.s34 h⟩, ⟨hW.blk, hW.bel, hW.l0, hW.l1, hW.k0, hW.k1, hW.w0, hW.w1, hW.sep, hW.a7, hW.a9, hW.a10, hW.a16, hW.a18, hW.a19, hW.a25⟩⟩
        · have d3 : D 3 = true := hn 3 (needs_b (by kernel_rfl))
          have e29 := hT.s3 d3
          refine wpOp_plain rfl rfl ?_
          go_simp
          exact ⟨upd u 30 (.pointer (some ⟨w0.heap.size, 0, none⟩)), by first | rfl | simp [upd, e29], ⟨fun h => hT.s0 h, fun h => hT.s1 h, fun h => hT.s2 h, fun h => hT.s3 h, fun _ => rfl, fun h => hT.s5 h, fun h => hT.s6 h, fun h => hT.s8 h, fun h => hT.s12 h, fun h => hT.s13 h, fun h => hT.s14 h, fun h => hT.s15 h, fun h => hT.s17 h, fun h => hT.s21 h, fun h => hT.s22 h, fun h => hT.s23 h, fun h => hT.s24 h, fun h => hT.s27 h, fun h => hT.s28 h, fun h => hT.s30 h, fun h => hT.s31 h, fun h => hT.s33 h, fun h => hT.s34 h⟩, ⟨hW.blk, hW.bel, hW.l0, hW.l1, hW.k0, hW.k1, hW.w0, hW.w1, hW.sep, hW.a7, hW.a9, hW.a10, hW.a16, hW.a18, hW.a19, hW.a25⟩⟩
        · have d4 : D 4 = true := hn 4 (needs_b (by kernel_rfl))
          have e30 := hT.s4 d4
          refine wpOp_plain rfl rfl ?_
          go_simp
          exact ⟨upd u 31 (.pointer (some ⟨w0.heap.size, 0, none⟩)), by first | rfl | simp [upd, e30], ⟨fun h => hT.s0 h, fun h => hT.s1 h, fun h => hT.s2 h, fun h => hT.s3 h, fun h => hT.s4 h, fun _ => rfl, fun h => hT.s6 h, fun h => hT.s8 h, fun h => hT.s12 h, fun h => hT.s13 h, fun h => hT.s14 h, fun h => hT.s15 h, fun h => hT.s17 h, fun h => hT.s21 h, fun h => hT.s22 h, fun h => hT.s23 h, fun h => hT.s24 h, fun h => hT.s27 h, fun h => hT.s28 h, fun h => hT.s30 h, fun h => hT.s31 h, fun h => hT.s33 h, fun h => hT.s34 h⟩, ⟨hW.blk, hW.bel, hW.l0, hW.l1, hW.k0, hW.k1, hW.w0, hW.w1, hW.sep, hW.a7, hW.a9, hW.a10, hW.a16, hW.a18, hW.a19, hW.a25⟩⟩
        · have d5 : D 5 = true := hn 5 (needs_b (by kernel_rfl))
          have e31 := hT.s5 d5
          have n1 : D 29 = false := by
            cases q : D 29 with
            | false => rfl
            | true => have := hcl 11 6 (hcl 29 11 q (needs_b (by kernel_rfl))) (needs_b (by kernel_rfl)); rw [hD] at this; cases this
          have c0 : w.cell? ⟨w0.heap.size, 0, none⟩ = some vL := (hW.blk.cell 0).trans (by simp [n1])
          refine wpOp_plain rfl rfl ?_
          go_simp
          exact ⟨upd u 32 (vL), by first | rfl | simp [upd, e31], ⟨fun h => hT.s0 h, fun h => hT.s1 h, fun h => hT.s2 h, fun h => hT.s3 h, fun h => hT.s4 h, fun h => hT.s5 h, fun _ => rfl, fun h => hT.s8 h, fun h => hT.s12 h, fun h => hT.s13 h, fun h => hT.s14 h, fun h => hT.s15 h, fun h => hT.s17 h, fun h => hT.s21 h, fun h => hT.s22 h, fun h => hT.s23 h, fun h => hT.s24 h, fun h => hT.s27 h, fun h => hT.s28 h, fun h => hT.s30 h, fun h => hT.s31 h, fun h => hT.s33 h, fun h => hT.s34 h⟩, ⟨hW.blk, hW.bel, hW.l0, hW.l1, hW.k0, hW.k1, hW.w0, hW.w1, hW.sep, hW.a7, hW.a9, hW.a10, hW.a16, hW.a18, hW.a19, hW.a25⟩⟩
        · refine wpOp_plain rfl rfl ?_
          go_simp
          have hb2 : Below w.heap.size w (w.alloc (.cells #[] 5)) := (Below.refl _ _).alloc (Nat.le_refl _) _
          have hW := hW.below hb2
          exact ⟨upd u 33 (.slice (some ⟨w.heap.size, 0, none⟩) 0 0), rfl, ⟨fun h => hT.s0 h, fun h => hT.s1 h, fun h => hT.s2 h, fun h => hT.s3 h, fun h => hT.s4 h, fun h => hT.s5 h, fun h => hT.s6 h, fun h => hT.s8 h, fun h => hT.s12 h, fun h => hT.s13 h, fun h => hT.s14 h, fun h => hT.s15 h, fun h => hT.s17 h, fun h => hT.s21 h, fun h => hT.s22 h, fun h => hT.s23 h, fun h => hT.s24 h, fun h => hT.s27 h, fun h => hT.s28 h, fun h => hT.s30 h, fun h => hT.s31 h, fun h => hT.s33 h, fun h => hT.s34 h⟩, ⟨hW.blk, hW.bel, hW.l0, hW.l1, hW.k0, hW.k1, hW.w0, hW.w1, hW.sep, (fun _ => ⟨_, rfl⟩), hW.a9, hW.a10, hW.a16, hW.a18, hW.a19, hW.a25⟩⟩
        · refine wpOp_plain rfl rfl ?_
          go_simp
          exact ⟨upd u 34 (.slice ta 64 tc), rfl, ⟨fun h => hT.s0 h, fun h => hT.s1 h, fun h => hT.s2 h, fun h => hT.s3 h, fun h => hT.s4 h, fun h => hT.s5 h, fun h => hT.s6 h, fun _ => rfl, fun h => hT.s12 h, fun h => hT.s13 h, fun h => hT.s14 h, fun h => hT.s15 h, fun h => hT.s17 h, fun h => hT.s21 h, fun h => hT.s22 h, fun h => hT.s23 h, fun h => hT.s24 h, fun h => hT.s27 h, fun h => hT.s28 h, fun h => hT.s30 h, fun h => hT.s31 h, fun h => hT.s33 h, fun h => hT.s34 h⟩, ⟨hW.blk, hW.bel, hW.l0, hW.l1, hW.k0, hW.k1, hW.w0, hW.w1, hW.sep, hW.a7, hW.a9, hW.a10, hW.a16, hW.a18, hW.a19, hW.a25⟩⟩
        · have d7 : D 7 = true := hn 7 (needs_b (by kernel_rfl))
          have d8 : D 8 = true := hn 8 (needs_b (by kernel_rfl))
          obtain ⟨g, e33⟩ := hW.a7 d7
          have e34 := hT.s8 d8
          refine wpOp_step rfl rfl (step_append_new rfl (.tmp 33) (.tmp 34) rfl g e33 ta tc e34 p HP.out (HS.out.below hW.bel (Nat.le_refl _)) ?_)
          intro v2 w2 hx hb2
          have hsz := hW.bel.size
          have hW := hW.below hb2
          exact ⟨upd u 35 v2, rfl, ⟨fun h => hT.s0 h, fun h => hT.s1 h, fun h => hT.s2 h, fun h => hT.s3 h, fun h => hT.s4 h, fun h => hT.s5 h, fun h => hT.s6 h, fun h => hT.s8 h, fun h => hT.s12 h, fun h => hT.s13 h, fun h => hT.s14 h, fun h => hT.s15 h, fun h => hT.s17 h, fun h => hT.s21 h, fun h => hT.s22 h, fun h => hT.s23 h, fun h => hT.s24 h, fun h => hT.s27 h, fun h => hT.s28 h, fun h => hT.s30 h, fun h => hT.s31 h, fun h => hT.s33 h, fun h => hT.s34 h⟩, ⟨hW.blk, hW.bel, hW.l0, hW.l1, hW.k0, hW.k1, hW.w0, hW.w1, hW.sep, hW.a7, (fun _ => hx.base hsz), (fun q _ => (by have := hcl 10 9 q (needs_b (by kernel_rfl)); rw [hD] at this; cases this)), hW.a16, hW.a18, hW.a19, hW.a25⟩⟩
        · have d9 : D 9 = true := hn 9 (needs_b (by kernel_rfl))
          obtain ⟨xa, xn, xc, e35⟩ := (hW.a9 d9).sl.val
          refine wpOp_plain rfl rfl ?_
          go_simp
          have hb2 : Below w.heap.size w (w.alloc (.cells #[.slice xa xn xc] 26)) := (Below.refl _ _).alloc (Nat.le_refl _) _
          have kb := Blk.new w 26 #[.slice xa xn xc]
          have hW := hW.below hb2
          exact ⟨upd u 36 (.slice (some ⟨w.heap.size, 0, none⟩) 1 1), by first | rfl | simp [upd, e35], ⟨fun h => hT.s0 h, fun h => hT.s1 h, fun h => hT.s2 h, fun h => hT.s3 h, fun h => hT.s4 h, fun h => hT.s5 h, fun h => hT.s6 h, fun h => hT.s8 h, fun h => hT.s12 h, fun h => hT.s13 h, fun h => hT.s14 h, fun h => hT.s15 h, fun h => hT.s17 h, fun h => hT.s21 h, fun h => hT.s22 h, fun h => hT.s23 h, fun h => hT.s24 h, fun h => hT.s27 h, fun h => hT.s28 h, fun h => hT.s30 h, fun h => hT.s31 h, fun h => hT.s33 h, fun h => hT.s34 h⟩, ⟨hW.blk, hW.bel, hW.l0, hW.l1, hW.k0, hW.k1, hW.w0, hW.w1, hW.sep, hW.a7, hW.a9, (fun _ _ => ⟨w.heap.size, rfl, by show Blk _ _ _ #[u 35]; rw [e35]; exact kb⟩), hW.a16, hW.a18, hW.a19, hW.a25⟩⟩
        · have d6 : D 6 = true := hn 6 (needs_b (by kernel_rfl))
          have d10 : D 10 = true := hn 10 (needs_b (by kernel_rfl))
          have d9 : D 9 = true := hn 9 (needs_b (by kernel_rfl))
          have e32 := hT.s6 d6
          obtain ⟨b, e36, kb⟩ := hW.a10 d10 hD
          have hOL := hW.l0 hD
          have n18 : D 18 = false := by
            cases q : D 18 with
            | false => rfl
            | true => have := hcl 18 11 q (needs_b (by kernel_rfl)); rw [hD] at this; cases this
          have n29 : D 29 = false := by
            cases q : D 29 with
            | false => rfl
            | true => have := hcl 29 11 q (needs_b (by kernel_rfl)); rw [hD] at this; cases this
          have n19 : D 19 = false := by
            cases q : D 19 with
            | false => rfl
            | true => have := hcl 19 18 q (needs_b (by kernel_rfl)); rw [n18] at this; cases this
          refine wpOp_step rfl rfl (step_append_ob2 rfl (.tmp 32) (.tmp 36) rfl w0.heap.size vL X e32 hOL b 1 e36 (u 35) (kb.cell 0) p (hW.a9 d9) (by have := hX; omega) hW.bel.size ?_)
          intro v2 w2 hx hb2 hg2 hq2
          have ho := Only.of_grownO hg2
          have typ : ∀ g ∈ vL.ownBlock.toList, ∃ cur, Blk w g 26 cur := fun g hg => by
            obtain ⟨vs, h1, _⟩ := hOL
            exact owns_blk h1 (by simpa using hg)
          have h8 : ∀ g ∈ vL.ownBlock.toList, ∀ cur, ¬ Blk w g 5 cur := fun g hg cur e => by
            obtain ⟨cur2, k2⟩ := typ g hg
            exact Blk.ne_ e k2 (by decide) rfl
          have hbo : ∀ g ∈ vL.ownBlock.toList, ∀ cur, ¬ Blk w g 4 cur := fun g hg cur e => by
            obtain ⟨cur2, k2⟩ := typ g hg
            exact Blk.ne_ e k2 (by decide) rfl
          have hyn : w0.heap.size ∉ vL.ownBlock.toList := fun hm => by
            obtain ⟨cur2, k2⟩ := typ _ hm
            exact Blk.ne_ hW.blk k2 (by decide) rfl
          have hsp : ∀ g, (cond (D 20) (u 46) vK).ownBlock = some g → g ∉ vL.ownBlock.toList := fun g hg hm => hW.sep g (by rw [hD]; simpa using hm) hg
          have hws : ∀ (v : Value) n xs, w.ownsRow w0.heap.size 4 1 v n xs → w2.ownsRow w0.heap.size 4 1 v n xs := fun v n xs q => ho.owns q fun g hg hm => by
            obtain ⟨cur, k⟩ := owns_blk q hg
            exact hbo g hm cur k
          have hsz := hW.bel.size
          have hlt : ∀ g, (cond (D 20) (u 46) vK).ownBlock = some g → g < w.heap.size := fun g hg => by
            cases q : D 20 with
            | false => rw [q] at hg; obtain ⟨vs, h1, _⟩ := hW.k0 q; obtain ⟨cur, k⟩ := owns_blk h1 hg; exact k.lt
            | true => rw [q] at hg; obtain ⟨vs, h1, _⟩ := hW.k1 q; obtain ⟨cur, k⟩ := owns_blk h1 hg; exact k.lt
          have hsep2 : ∀ g, v2.ownBlock = some g → (cond (D 20) (u 46) vK).ownBlock ≠ some g := fun g h1 h2 => by
            rcases hq2 g h1 with h3 | h3
            · exact hW.sep g (by rw [hD]; exact h3) h2
            · have := hlt g h2; omega
          exact ⟨upd u 37 v2, rfl, ⟨fun h => hT.s0 h, fun h => hT.s1 h, fun h => hT.s2 h, fun h => hT.s3 h, fun h => hT.s4 h, fun h => hT.s5 h, fun h => hT.s6 h, fun h => hT.s8 h, fun h => hT.s12 h, fun h => hT.s13 h, fun h => hT.s14 h, fun h => hT.s15 h, fun h => hT.s17 h, fun h => hT.s21 h, fun h => hT.s22 h, fun h => hT.s23 h, fun h => hT.s24 h, fun h => hT.s27 h, fun h => hT.s28 h, fun h => hT.s30 h, fun h => hT.s31 h, fun h => hT.s33 h, fun h => hT.s34 h⟩, ⟨(by have h := ho.blk hW.blk hyn; rw [n29] at h; show Blk _ _ _ #[cond (D 29) v2 vL, _, _, _, _, _]; rw [n29]; exact h), (hW.bel.trans hb2), (fun q => by cases q), (fun _ => hx), (fun q => (hW.k0 q).keepR ho h8 (by rw [show D 20 = false from q] at hsp; exact hsp)), (fun q => (hW.k1 q).keepR ho h8 (by rw [show D 20 = true from q] at hsp; exact hsp)), (fun q => hws _ _ _ (hW.w0 q)), (fun q => hws _ _ _ (hW.w1 q)), (hsep2), hW.a7, (fun q => (hW.a9 q).only ho h8), (fun _ q => by cases q), hW.a16, (fun q => (hW.a18 q).only ho h8), (fun q => by have q : D 19 = true := q; rw [n19] at q; cases q), (fun q r => by obtain ⟨b2, e2, k2⟩ := hW.a25 q r; exact ⟨b2, e2, ho.blk k2 (fun hm => hbo _ hm _ k2)⟩)⟩⟩
        · refine wpOp_plain rfl rfl ?_
          go_simp
          exact ⟨upd u 38 (.pointer (some ⟨w0.heap.size, 0, none⟩)), rfl, ⟨fun h => hT.s0 h, fun h => hT.s1 h, fun h => hT.s2 h, fun h => hT.s3 h, fun h => hT.s4 h, fun h => hT.s5 h, fun h => hT.s6 h, fun h => hT.s8 h, fun _ => rfl, fun h => hT.s13 h, fun h => hT.s14 h, fun h => hT.s15 h, fun h => hT.s17 h, fun h => hT.s21 h, fun h => hT.s22 h, fun h => hT.s23 h, fun h => hT.s24 h, fun h => hT.s27 h, fun h => hT.s28 h, fun h => hT.s30 h, fun h => hT.s31 h, fun h => hT.s33 h, fun h => hT.s34 h⟩, ⟨hW.blk, hW.bel, hW.l0, hW.l1, hW.k0, hW.k1, hW.w0, hW.w1, hW.sep, hW.a7, hW.a9, hW.a10, hW.a16, hW.a18, hW.a19, hW.a25⟩⟩
        · have d12 : D 12 = true := hn 12 (needs_b (by kernel_rfl))
          have e38 := hT.s12 d12
          refine wpOp_plain rfl rfl ?_
          go_simp
          exact ⟨upd u 39 (.pointer (some ⟨w0.heap.size, 0, none⟩)), by first | rfl | simp [upd, e38], ⟨fun h => hT.s0 h, fun h => hT.s1 h, fun h => hT.s2 h, fun h => hT.s3 h, fun h => hT.s4 h, fun h => hT.s5 h, fun h => hT.s6 h, fun h => hT.s8 h, fun h => hT.s12 h, fun _ => rfl, fun h => hT.s14 h, fun h => hT.s15 h, fun h => hT.s17 h, fun h => hT.s21 h, fun h => hT.s22 h, fun h => hT.s23 h, fun h => hT.s24 h, fun h => hT.s27 h, fun h => hT.s28 h, fun h => hT.s30 h, fun h => hT.s31 h, fun h => hT.s33 h, fun h => hT.s34 h⟩, ⟨hW.blk, hW.bel, hW.l0, hW.l1, hW.k0, hW.k1, hW.w0, hW.w1, hW.sep, hW.a7, hW.a9, hW.a10, hW.a16, hW.a18, hW.a19, hW.a25⟩⟩
        · have d13 : D 13 = true := hn 13 (needs_b (by kernel_rfl))
          have e39 := hT.s13 d13
          refine wpOp_plain rfl rfl ?_
          go_simp
          exact ⟨upd u 40 (.pointer (some ⟨w0.heap.size, 1, none⟩)), by first | rfl | simp [upd, e39], ⟨fun h => hT.s0 h, fun h => hT.s1 h, fun h => hT.s2 h, fun h => hT.s3 h, fun h => hT.s4 h, fun h => hT.s5 h, fun h => hT.s6 h, fun h => hT.s8 h, fun h => hT.s12 h, fun h => hT.s13 h, fun _ => rfl, fun h => hT.s15 h, fun h => hT.s17 h, fun h => hT.s21 h, fun h => hT.s22 h, fun h => hT.s23 h, fun h => hT.s24 h, fun h => hT.s27 h, fun h => hT.s28 h, fun h => hT.s30 h, fun h => hT.s31 h, fun h => hT.s33 h, fun h => hT.s34 h⟩, ⟨hW.blk, hW.bel, hW.l0, hW.l1, hW.k0, hW.k1, hW.w0, hW.w1, hW.sep, hW.a7, hW.a9, hW.a10, hW.a16, hW.a18, hW.a19, hW.a25⟩⟩
        · have d14 : D 14 = true := hn 14 (needs_b (by kernel_rfl))
          have e40 := hT.s14 d14
          have n1 : D 32 = false := by
            cases q : D 32 with
            | false => rfl
            | true => have := hcl 20 15 (hcl 32 20 q (needs_b (by kernel_rfl))) (needs_b (by kernel_rfl)); rw [hD] at this; cases this
          have c0 : w.cell? ⟨w0.heap.size, 1, none⟩ = some vK := (hW.blk.cell 1).trans (by simp [n1])
          refine wpOp_plain rfl rfl ?_
          go_simp
          exact ⟨upd u 41 (vK), by first | rfl | simp [upd, e40], ⟨fun h => hT.s0 h, fun h => hT.s1 h, fun h => hT.s2 h, fun h => hT.s3 h, fun h => hT.s4 h, fun h => hT.s5 h, fun h => hT.s6 h, fun h => hT.s8 h, fun h => hT.s12 h, fun h => hT.s13 h, fun h => hT.s14 h, fun _ => rfl, fun h => hT.s17 h, fun h => hT.s21 h, fun h => hT.s22 h, fun h => hT.s23 h, fun h => hT.s24 h, fun h => hT.s27 h, fun h => hT.s28 h, fun h => hT.s30 h, fun h => hT.s31 h, fun h => hT.s33 h, fun h => hT.s34 h⟩, ⟨hW.blk, hW.bel, hW.l0, hW.l1, hW.k0, hW.k1, hW.w0, hW.w1, hW.sep, hW.a7, hW.a9, hW.a10, hW.a16, hW.a18, hW.a19, hW.a25⟩⟩
        · refine wpOp_plain rfl rfl ?_
          go_simp
          have hb2 : Below w.heap.size w (w.alloc (.cells #[] 5)) := (Below.refl _ _).alloc (Nat.le_refl _) _
          have hW := hW.below hb2
          exact ⟨upd u 42 (.slice (some ⟨w.heap.size, 0, none⟩) 0 0), rfl, ⟨fun h => hT.s0 h, fun h => hT.s1 h, fun h => hT.s2 h, fun h => hT.s3 h, fun h => hT.s4 h, fun h => hT.s5 h, fun h => hT.s6 h, fun h => hT.s8 h, fun h => hT.s12 h, fun h => hT.s13 h, fun h => hT.s14 h, fun h => hT.s15 h, fun h => hT.s17 h, fun h => hT.s21 h, fun h => hT.s22 h, fun h => hT.s23 h, fun h => hT.s24 h, fun h => hT.s27 h, fun h => hT.s28 h, fun h => hT.s30 h, fun h => hT.s31 h, fun h => hT.s33 h, fun h => hT.s34 h⟩, ⟨hW.blk, hW.bel, hW.l0, hW.l1, hW.k0, hW.k1, hW.w0, hW.w1, hW.sep, hW.a7, hW.a9, hW.a10, (fun _ => ⟨_, rfl⟩), hW.a18, hW.a19, hW.a25⟩⟩
        · refine wpOp_plain rfl rfl ?_
          go_simp
          exact ⟨upd u 43 (.slice ta 64 tc), rfl, ⟨fun h => hT.s0 h, fun h => hT.s1 h, fun h => hT.s2 h, fun h => hT.s3 h, fun h => hT.s4 h, fun h => hT.s5 h, fun h => hT.s6 h, fun h => hT.s8 h, fun h => hT.s12 h, fun h => hT.s13 h, fun h => hT.s14 h, fun h => hT.s15 h, fun _ => rfl, fun h => hT.s21 h, fun h => hT.s22 h, fun h => hT.s23 h, fun h => hT.s24 h, fun h => hT.s27 h, fun h => hT.s28 h, fun h => hT.s30 h, fun h => hT.s31 h, fun h => hT.s33 h, fun h => hT.s34 h⟩, ⟨hW.blk, hW.bel, hW.l0, hW.l1, hW.k0, hW.k1, hW.w0, hW.w1, hW.sep, hW.a7, hW.a9, hW.a10, hW.a16, hW.a18, hW.a19, hW.a25⟩⟩
        · have d16 : D 16 = true := hn 16 (needs_b (by kernel_rfl))
          have d17 : D 17 = true := hn 17 (needs_b (by kernel_rfl))
          obtain ⟨g, e42⟩ := hW.a16 d16
          have e43 := hT.s17 d17
          refine wpOp_step rfl rfl (step_append_new rfl (.tmp 42) (.tmp 43) rfl g e42 ta tc e43 p HP.out (HS.out.below hW.bel (Nat.le_refl _)) ?_)
          intro v2 w2 hx hb2
          have hsz := hW.bel.size
          have hW := hW.below hb2
          exact ⟨upd u 44 v2, rfl, ⟨fun h => hT.s0 h, fun h => hT.s1 h, fun h => hT.s2 h, fun h => hT.s3 h, fun h => hT.s4 h, fun h => hT.s5 h, fun h => hT.s6 h, fun h => hT.s8 h, fun h => hT.s12 h, fun h => hT.s13 h, fun h => hT.s14 h, fun h => hT.s15 h, fun h => hT.s17 h, fun h => hT.s21 h, fun h => hT.s22 h, fun h => hT.s23 h, fun h => hT.s24 h, fun h => hT.s27 h, fun h => hT.s28 h, fun h => hT.s30 h, fun h => hT.s31 h, fun h => hT.s33 h, fun h => hT.s34 h⟩, ⟨hW.blk, hW.bel, hW.l0, hW.l1, hW.k0, hW.k1, hW.w0, hW.w1, hW.sep, hW.a7, hW.a9, hW.a10, hW.a16, (fun _ => hx.base hsz), (fun q _ => (by have := hcl 19 18 q (needs_b (by kernel_rfl)); rw [hD] at this; cases this)), hW.a25⟩⟩
        · have d18 : D 18 = true := hn 18 (needs_b (by kernel_rfl))
          obtain ⟨xa, xn, xc, e44⟩ := (hW.a18 d18).sl.val
          refine wpOp_plain rfl rfl ?_
          go_simp
          have hb2 : Below w.heap.size w (w.alloc (.cells #[.slice xa xn xc] 26)) := (Below.refl _ _).alloc (Nat.le_refl _) _
          have kb := Blk.new w 26 #[.slice xa xn xc]
          have hW := hW.below hb2
          exact ⟨upd u 45 (.slice (some ⟨w.heap.size, 0, none⟩) 1 1), by first | rfl | simp [upd, e44], ⟨fun h => hT.s0 h, fun h => hT.s1 h, fun h => hT.s2 h, fun h => hT.s3 h, fun h => hT.s4 h, fun h => hT.s5 h, fun h => hT.s6 h, fun h => hT.s8 h, fun h => hT.s12 h, fun h => hT.s13 h, fun h => hT.s14 h, fun h => hT.s15 h, fun h => hT.s17 h, fun h => hT.s21 h, fun h => hT.s22 h, fun h => hT.s23 h, fun h => hT.s24 h, fun h => hT.s27 h, fun h => hT.s28 h, fun h => hT.s30 h, fun h => hT.s31 h, fun h => hT.s33 h, fun h => hT.s34 h⟩, ⟨hW.blk, hW.bel, hW.l0, hW.l1, hW.k0, hW.k1, hW.w0, hW.w1, hW.sep, hW.a7, hW.a9, hW.a10, hW.a16, hW.a18, (fun _ _ => ⟨w.heap.size, rfl, by show Blk _ _ _ #[u 44]; rw [e44]; exact kb⟩), hW.a25⟩⟩
        · have d15 : D 15 = true := hn 15 (needs_b (by kernel_rfl))
          have d19 : D 19 = true := hn 19 (needs_b (by kernel_rfl))
          have d18 : D 18 = true := hn 18 (needs_b (by kernel_rfl))
          have d11 : D 11 = true := hcl 18 11 d18 (needs_b (by kernel_rfl))
          have e41 := hT.s15 d15
          obtain ⟨b, e45, kb⟩ := hW.a19 d19 hD
          have hOL := hW.k0 hD
          have n32 : D 32 = false := by
            cases q : D 32 with
            | false => rfl
            | true => have := hcl 32 20 q (needs_b (by kernel_rfl)); rw [hD] at this; cases this
          refine wpOp_step rfl rfl (step_append_ob2 rfl (.tmp 41) (.tmp 45) rfl w0.heap.size vK X e41 hOL b 1 e45 (u 44) (kb.cell 0) p (hW.a18 d18) (by have := hX; omega) hW.bel.size ?_)
          intro v2 w2 hx hb2 hg2 hq2
          have ho := Only.of_grownO hg2
          have typ : ∀ g ∈ vK.ownBlock.toList, ∃ cur, Blk w g 26 cur := fun g hg => by
            obtain ⟨vs, h1, _⟩ := hOL
            exact owns_blk h1 (by simpa using hg)
          have h8 : ∀ g ∈ vK.ownBlock.toList, ∀ cur, ¬ Blk w g 5 cur := fun g hg cur e => by
            obtain ⟨cur2, k2⟩ := typ g hg
            exact Blk.ne_ e k2 (by decide) rfl
          have hbo : ∀ g ∈ vK.ownBlock.toList, ∀ cur, ¬ Blk w g 4 cur := fun g hg cur e => by
            obtain ⟨cur2, k2⟩ := typ g hg
            exact Blk.ne_ e k2 (by decide) rfl
          have hyn : w0.heap.size ∉ vK.ownBlock.toList := fun hm => by
            obtain ⟨cur2, k2⟩ := typ _ hm
            exact Blk.ne_ hW.blk k2 (by decide) rfl
          have hsp : ∀ g, (u 37).ownBlock = some g → g ∉ vK.ownBlock.toList := fun g hg hm => hW.sep g (by rw [d11]; exact hg) (by rw [hD]; simpa using hm)
          have hws : ∀ (v : Value) n xs, w.ownsRow w0.heap.size 4 1 v n xs → w2.ownsRow w0.heap.size 4 1 v n xs := fun v n xs q => ho.owns q fun g hg hm => by
            obtain ⟨cur, k⟩ := owns_blk q hg
            exact hbo g hm cur k
          have hsep2 : ∀ g, (cond (D 11) (u 37) vL).ownBlock = some g → v2.ownBlock ≠ some g := fun g h2 h1 => by
            rw [d11] at h2
            rcases hq2 g h1 with h3 | h3
            · exact hW.sep g (by rw [d11]; exact h2) (by rw [hD]; exact h3)
            · obtain ⟨vs, h5, _⟩ := hW.l1 d11
              obtain ⟨cur, k⟩ := owns_blk h5 h2
              have := k.lt
              omega
          exact ⟨upd u 46 v2, rfl, ⟨fun h => hT.s0 h, fun h => hT.s1 h, fun h => hT.s2 h, fun h => hT.s3 h, fun h => hT.s4 h, fun h => hT.s5 h, fun h => hT.s6 h, fun h => hT.s8 h, fun h => hT.s12 h, fun h => hT.s13 h, fun h => hT.s14 h, fun h => hT.s15 h, fun h => hT.s17 h, fun h => hT.s21 h, fun h => hT.s22 h, fun h => hT.s23 h, fun h => hT.s24 h, fun h => hT.s27 h, fun h => hT.s28 h, fun h => hT.s30 h, fun h => hT.s31 h, fun h => hT.s33 h, fun h => hT.s34 h⟩, ⟨(by have h := ho.blk hW.blk hyn; rw [n32] at h; show Blk _ _ _ #[_, cond (D 32) v2 vK, _, _, _, _]; rw [n32]; exact h), (hW.bel.trans hb2), (fun q => by rw [show D 11 = false from q] at d11; cases d11), (fun q => (hW.l1 q).keepR ho h8 hsp), (fun q => by cases q), (fun _ => hx), (fun q => hws _ _ _ (hW.w0 q)), (fun q => hws _ _ _ (hW.w1 q)), (hsep2), hW.a7, (fun q => (hW.a9 q).only ho h8), (fun _ q => by rw [show D 11 = false from q] at d11; cases d11), hW.a16, (fun q => (hW.a18 q).only ho h8), (fun _ q => by cases q), (fun q r => by obtain ⟨b2, e2, k2⟩ := hW.a25 q r; exact ⟨b2, e2, ho.blk k2 (fun hm => hbo _ hm _ k2)⟩)⟩⟩
        · refine wpOp_plain rfl rfl ?_
          go_simp
          exact ⟨upd u 47 (.pointer (some ⟨w0.heap.size, 0, none⟩)), rfl, ⟨fun h => hT.s0 h, fun h => hT.s1 h, fun h => hT.s2 h, fun h => hT.s3 h, fun h => hT.s4 h, fun h => hT.s5 h, fun h => hT.s6 h, fun h => hT.s8 h, fun h => hT.s12 h, fun h => hT.s13 h, fun h => hT.s14 h, fun h => hT.s15 h, fun h => hT.s17 h, fun _ => rfl, fun h => hT.s22 h, fun h => hT.s23 h, fun h => hT.s24 h, fun h => hT.s27 h, fun h => hT.s28 h, fun h => hT.s30 h, fun h => hT.s31 h, fun h => hT.s33 h, fun h => hT.s34 h⟩, ⟨hW.blk, hW.bel, hW.l0, hW.l1, hW.k0, hW.k1, hW.w0, hW.w1, hW.sep, hW.a7, hW.a9, hW.a10, hW.a16, hW.a18, hW.a19, hW.a25⟩⟩
        · have d21 : D 21 = true := hn 21 (needs_b (by kernel_rfl))
          have e47 := hT.s21 d21
          refine wpOp_plain rfl rfl ?_
          go_simp
          exact ⟨upd u 48 (.pointer (some ⟨w0.heap.size, 0, none⟩)), by first | rfl | simp [upd, e47], ⟨fun h => hT.s0 h, fun h => hT.s1 h, fun h => hT.s2 h, fun h => hT.s3 h, fun h => hT.s4 h, fun h => hT.s5 h, fun h => hT.s6 h, fun h => hT.s8 h, fun h => hT.s12 h, fun h => hT.s13 h, fun h => hT.s14 h, fun h => hT.s15 h, fun h => hT.s17 h, fun h => hT.s21 h, fun _ => rfl, fun h => hT.s23 h, fun h => hT.s24 h, fun h => hT.s27 h, fun h => hT.s28 h, fun h => hT.s30 h, fun h => hT.s31 h, fun h => hT.s33 h, fun h => hT.s34 h⟩, ⟨hW.blk, hW.bel, hW.l0, hW.l1, hW.k0, hW.k1, hW.w0, hW.w1, hW.sep, hW.a7, hW.a9, hW.a10, hW.a16, hW.a18, hW.a19, hW.a25⟩⟩
        · have d22 : D 22 = true := hn 22 (needs_b (by kernel_rfl))
          have e48 := hT.s22 d22
          refine wpOp_plain rfl rfl ?_
          go_simp
          exact ⟨upd u 49 (.pointer (some ⟨w0.heap.size, 2, none⟩)), by first | rfl | simp [upd, e48], ⟨fun h => hT.s0 h, fun h => hT.s1 h, fun h => hT.s2 h, fun h => hT.s3 h, fun h => hT.s4 h, fun h => hT.s5 h, fun h => hT.s6 h, fun h => hT.s8 h, fun h => hT.s12 h, fun h => hT.s13 h, fun h => hT.s14 h, fun h => hT.s15 h, fun h => hT.s17 h, fun h => hT.s21 h, fun h => hT.s22 h, fun _ => rfl, fun h => hT.s24 h, fun h => hT.s27 h, fun h => hT.s28 h, fun h => hT.s30 h, fun h => hT.s31 h, fun h => hT.s33 h, fun h => hT.s34 h⟩, ⟨hW.blk, hW.bel, hW.l0, hW.l1, hW.k0, hW.k1, hW.w0, hW.w1, hW.sep, hW.a7, hW.a9, hW.a10, hW.a16, hW.a18, hW.a19, hW.a25⟩⟩
        · have d23 : D 23 = true := hn 23 (needs_b (by kernel_rfl))
          have e49 := hT.s23 d23
          have n1 : D 35 = false := by
            cases q : D 35 with
            | false => rfl
            | true => have := hcl 26 24 (hcl 35 26 q (needs_b (by kernel_rfl))) (needs_b (by kernel_rfl)); rw [hD] at this; cases this
          have c0 : w.cell? ⟨w0.heap.size, 2, none⟩ = some vW := (hW.blk.cell 2).trans (by simp [n1])
          refine wpOp_plain rfl rfl ?_
          go_simp
          exact ⟨upd u 50 (vW), by first | rfl | simp [upd, e49], ⟨fun h => hT.s0 h, fun h => hT.s1 h, fun h => hT.s2 h, fun h => hT.s3 h, fun h => hT.s4 h, fun h => hT.s5 h, fun h => hT.s6 h, fun h => hT.s8 h, fun h => hT.s12 h, fun h => hT.s13 h, fun h => hT.s14 h, fun h => hT.s15 h, fun h => hT.s17 h, fun h => hT.s21 h, fun h => hT.s22 h, fun h => hT.s23 h, fun _ => rfl, fun h => hT.s27 h, fun h => hT.s28 h, fun h => hT.s30 h, fun h => hT.s31 h, fun h => hT.s33 h, fun h => hT.s34 h⟩, ⟨hW.blk, hW.bel, hW.l0, hW.l1, hW.k0, hW.k1, hW.w0, hW.w1, hW.sep, hW.a7, hW.a9, hW.a10, hW.a16, hW.a18, hW.a19, hW.a25⟩⟩
        · refine wpOp_plain rfl rfl ?_
          go_simp
          have hb2 : Below w.heap.size w (w.alloc (.cells #[.bool false] 4)) := (Below.refl _ _).alloc (Nat.le_refl _) _
          have kb := Blk.new w 4 #[.bool false]
          have hW := hW.below hb2
          exact ⟨upd u 51 (.slice (some ⟨w.heap.size, 0, none⟩) 1 1), rfl, ⟨fun h => hT.s0 h, fun h => hT.s1 h, fun h => hT.s2 h, fun h => hT.s3 h, fun h => hT.s4 h, fun h => hT.s5 h, fun h => hT.s6 h, fun h => hT.s8 h, fun h => hT.s12 h, fun h => hT.s13 h, fun h => hT.s14 h, fun h => hT.s15 h, fun h => hT.s17 h, fun h => hT.s21 h, fun h => hT.s22 h, fun h => hT.s23 h, fun h => hT.s24 h, fun h => hT.s27 h, fun h => hT.s28 h, fun h => hT.s30 h, fun h => hT.s31 h, fun h => hT.s33 h, fun h => hT.s34 h⟩, ⟨hW.blk, hW.bel, hW.l0, hW.l1, hW.k0, hW.k1, hW.w0, hW.w1, hW.sep, hW.a7, hW.a9, hW.a10, hW.a16, hW.a18, hW.a19, (fun _ _ => ⟨w.heap.size, rfl, kb⟩)⟩⟩
        · have d24 : D 24 = true := hn 24 (needs_b (by kernel_rfl))
          have d25 : D 25 = true := hn 25 (needs_b (by kernel_rfl))
          have e50 := hT.s24 d24
          obtain ⟨b, e51, kb⟩ := hW.a25 d25 hD
          have hOL := hW.w0 hD
          have n35 : D 35 = false := by
            cases q : D 35 with
            | false => rfl
            | true => have := hcl 35 26 q (needs_b (by kernel_rfl)); rw [hD] at this; cases this
          refine wpOp_step rfl rfl (step_append_false rfl (.tmp 50) (.tmp 51) rfl w0.heap.size vW k _ e50 hOL b e51 (kb.cell 0) (by omega) hW.bel.size ?_)
          intro v2 w2 hx hg2
          have ho := Only.of_grownO hg2
          have hb2 : Below w0.heap.size w w2 := (Below.refl _ _).grown hg2 hW.bel.size (fun k hk => (hOL.lt k hk).1)
          have typ : ∀ g ∈ vW.ownBlock.toList, ∃ cur, Blk w g 4 cur := fun g hg => owns_blk hOL (by simpa using hg)
          have h8 : ∀ g ∈ vW.ownBlock.toList, ∀ cur, ¬ Blk w g 5 cur ∧ ¬ Blk w g 26 cur := fun g hg cur => by
            obtain ⟨cur2, k2⟩ := typ g hg
            exact ⟨fun e => Blk.ne_ e k2 (by decide) rfl, fun e => Blk.ne_ e k2 (by decide) rfl⟩
          have hyn : w0.heap.size ∉ vW.ownBlock.toList := fun hm => by
            obtain ⟨cur2, k2⟩ := typ _ hm
            exact Blk.ne_ hW.blk k2 (by decide) rfl
          exact ⟨upd u 52 v2, rfl, ⟨fun h => hT.s0 h, fun h => hT.s1 h, fun h => hT.s2 h, fun h => hT.s3 h, fun h => hT.s4 h, fun h => hT.s5 h, fun h => hT.s6 h, fun h => hT.s8 h, fun h => hT.s12 h, fun h => hT.s13 h, fun h => hT.s14 h, fun h => hT.s15 h, fun h => hT.s17 h, fun h => hT.s21 h, fun h => hT.s22 h, fun h => hT.s23 h, fun h => hT.s24 h, fun h => hT.s27 h, fun h => hT.s28 h, fun h => hT.s30 h, fun h => hT.s31 h, fun h => hT.s33 h, fun h => hT.s34 h⟩, ⟨(by have h := ho.blk hW.blk hyn; rw [n35] at h; show Blk _ _ _ #[_, _, cond (D 35) v2 vW, _, _, _]; rw [n35]; exact h), (hW.bel.trans hb2), (fun q => (hW.l0 q).only ho h8), (fun q => (hW.l1 q).only ho h8), (fun q => (hW.k0 q).only ho h8), (fun q => (hW.k1 q).only ho h8), (fun q => by cases q), (fun _ => hx), hW.sep, hW.a7, (fun q => (hW.a9 q).only ho fun g hg cur => (h8 g hg cur).1), (fun q r => by obtain ⟨b2, e2, k2⟩ := hW.a10 q r; exact ⟨b2, e2, ho.blk k2 (fun hm => (h8 _ hm _).2 k2)⟩), hW.a16, (fun q => (hW.a18 q).only ho fun g hg cur => (h8 g hg cur).1), (fun q r => by obtain ⟨b2, e2, k2⟩ := hW.a19 q r; exact ⟨b2, e2, ho.blk k2 (fun hm => (h8 _ hm _).2 k2)⟩), (fun _ q => by cases q)⟩⟩
        · have d0 : D 0 = true := hn 0 (needs_b (by kernel_rfl))
          have e26 := hT.s0 d0
          refine wpOp_plain rfl rfl ?_
          go_simp
          exact ⟨upd u 53 (.pointer (some ⟨w0.heap.size, 0, none⟩)), by first | rfl | simp [upd, e26], ⟨fun h => hT.s0 h, fun h => hT.s1 h, fun h => hT.s2 h, fun h => hT.s3 h, fun h => hT.s4 h, fun h => hT.s5 h, fun h => hT.s6 h, fun h => hT.s8 h, fun h => hT.s12 h, fun h => hT.s13 h, fun h => hT.s14 h, fun h => hT.s15 h, fun h => hT.s17 h, fun h => hT.s21 h, fun h => hT.s22 h, fun h => hT.s23 h, fun h => hT.s24 h, fun _ => rfl, fun h => hT.s28 h, fun h => hT.s30 h, fun h => hT.s31 h, fun h => hT.s33 h, fun h => hT.s34 h⟩, ⟨hW.blk, hW.bel, hW.l0, hW.l1, hW.k0, hW.k1, hW.w0, hW.w1, hW.sep, hW.a7, hW.a9, hW.a10, hW.a16, hW.a18, hW.a19, hW.a25⟩⟩
        · have d27 : D 27 = true := hn 27 (needs_b (by kernel_rfl))
          have e53 := hT.s27 d27
          refine wpOp_plain rfl rfl ?_
          go_simp
          exact ⟨upd u 54 (.pointer (some ⟨w0.heap.size, 0, none⟩)), by first | rfl | simp [upd, e53], ⟨fun h => hT.s0 h, fun h => hT.s1 h, fun h => hT.s2 h, fun h => hT.s3 h, fun h => hT.s4 h, fun h => hT.s5 h, fun h => hT.s6 h, fun h => hT.s8 h, fun h => hT.s12 h, fun h => hT.s13 h, fun h => hT.s14 h, fun h => hT.s15 h, fun h => hT.s17 h, fun h => hT.s21 h, fun h => hT.s22 h, fun h => hT.s23 h, fun h => hT.s24 h, fun h => hT.s27 h, fun _ => rfl, fun h => hT.s30 h, fun h => hT.s31 h, fun h => hT.s33 h, fun h => hT.s34 h⟩, ⟨hW.blk, hW.bel, hW.l0, hW.l1, hW.k0, hW.k1, hW.w0, hW.w1, hW.sep, hW.a7, hW.a9, hW.a10, hW.a16, hW.a18, hW.a19, hW.a25⟩⟩
        · have d28 : D 28 = true := hn 28 (needs_b (by kernel_rfl))
          have d11 : D 11 = true := hn 11 (needs_b (by kernel_rfl))
          have e54 := hT.s28 d28
          obtain ⟨xa, xn, xc, e37⟩ : ∃ a n c, u 37 = Value.slice a n c := by obtain ⟨a, c, e⟩ := (hW.l1 d11).val; exact ⟨_, _, _, e⟩
          have c0 : w.cell? ⟨w0.heap.size, 0, none⟩ = some vL := (hW.blk.cell 0).trans (by simp [hD])
          have f0 := hW.blk.frozen 0
          have ho : Only [w0.heap.size] w (w.setCell ⟨w0.heap.size, 0, none⟩ (.slice xa xn xc)) := Only.setCell _ _ (by simp) _
          have hbk := hW.blk.set_ 0 (.slice xa xn xc)
          have h8 : ∀ g ∈ [w0.heap.size], ∀ cur, ¬ Blk w g 5 cur ∧ ¬ Blk w g 26 cur := fun g hg cur => by
            obtain rfl : g = w0.heap.size := by simpa using hg
            exact ⟨fun e => Blk.ne_ e hW.blk (by decide) rfl, fun e => Blk.ne_ e hW.blk (by decide) rfl⟩
          have hws : ∀ (v : Value) n xs, w.ownsRow w0.heap.size 4 1 v n xs → (w.setCell ⟨w0.heap.size, 0, none⟩ (.slice xa xn xc)).ownsRow w0.heap.size 4 1 v n xs := fun v n xs q => ho.owns q fun g hg hm => by
            obtain ⟨cur, k⟩ := owns_blk q hg
            obtain rfl : g = w0.heap.size := by simpa using hm
            exact Blk.ne_ k hW.blk (by decide) rfl
          refine wpOp_plain rfl rfl ?_
          go_simp
          exact ⟨u, by first | rfl | simp [e54, e37], ⟨fun h => hT.s0 h, fun h => hT.s1 h, fun h => hT.s2 h, fun h => hT.s3 h, fun h => hT.s4 h, fun h => hT.s5 h, fun h => hT.s6 h, fun h => hT.s8 h, fun h => hT.s12 h, fun h => hT.s13 h, fun h => hT.s14 h, fun h => hT.s15 h, fun h => hT.s17 h, fun h => hT.s21 h, fun h => hT.s22 h, fun h => hT.s23 h, fun h => hT.s24 h, fun h => hT.s27 h, fun h => hT.s28 h, fun h => hT.s30 h, fun h => hT.s31 h, fun h => hT.s33 h, fun h => hT.s34 h⟩, ⟨(by show Blk _ _ _ #[u 37, cond (D 32) (u 46) vK, cond (D 35) (u 52) vW, .int .i64 (-1), .bool false, .int .i64 0]; rw [e37]; exact hbk), (Only.belowOf hW.bel ho hW.bel.size (by simp)), (fun q => (hW.l0 q).only ho h8), (fun q => (hW.l1 q).only ho h8), (fun q => (hW.k0 q).only ho h8), (fun q => (hW.k1 q).only ho h8), (fun q => hws _ _ _ (hW.w0 q)), (fun q => hws _ _ _ (hW.w1 q)), hW.sep, hW.a7, (fun q => (hW.a9 q).only ho fun g hg cur => (h8 g hg cur).1), (fun q r => by obtain ⟨b2, e2, k2⟩ := hW.a10 q r; exact ⟨b2, e2, ho.blk k2 (fun hm => (h8 _ hm _).2 k2)⟩), hW.a16, (fun q => (hW.a18 q).only ho fun g hg cur => (h8 g hg cur).1), (fun q r => by obtain ⟨b2, e2, k2⟩ := hW.a19 q r; exact ⟨b2, e2, ho.blk k2 (fun hm => (h8 _ hm _).2 k2)⟩), (fun q r => by obtain ⟨b2, e2, k2⟩ := hW.a25 q r; exact ⟨b2, e2, ho.blk k2 (fun hm => by obtain rfl : b2 = w0.heap.size := (by simpa using hm); exact Blk.ne_ k2 hW.blk (by decide) rfl)⟩)⟩⟩
        · have d1 : D 1 = true := hn 1 (needs_b (by kernel_rfl))
          have e27 := hT.s1 d1
          refine wpOp_plain rfl rfl ?_
          go_simp
          exact ⟨upd u 55 (.pointer (some ⟨w0.heap.size, 0, none⟩)), by first | rfl | simp [upd, e27], ⟨fun h => hT.s0 h, fun h => hT.s1 h, fun h => hT.s2 h, fun h => hT.s3 h, fun h => hT.s4 h, fun h => hT.s5 h, fun h => hT.s6 h, fun h => hT.s8 h, fun h => hT.s12 h, fun h => hT.s13 h, fun h => hT.s14 h, fun h => hT.s15 h, fun h => hT.s17 h, fun h => hT.s21 h, fun h => hT.s22 h, fun h => hT.s23 h, fun h => hT.s24 h, fun h => hT.s27 h, fun h => hT.s28 h, fun _ => rfl, fun h => hT.s31 h, fun h => hT.s33 h, fun h => hT.s34 h⟩, ⟨hW.blk, hW.bel, hW.l0, hW.l1, hW.k0, hW.k1, hW.w0, hW.w1, hW.sep, hW.a7, hW.a9, hW.a10, hW.a16, hW.a18, hW.a19, hW.a25⟩⟩
        · have d30 : D 30 = true := hn 30 (needs_b (by kernel_rfl))
          have e55 := hT.s30 d30
          refine wpOp_plain rfl rfl ?_
          go_simp
          exact ⟨upd u 56 (.pointer (some ⟨w0.heap.size, 1, none⟩)), by first | rfl | simp [upd, e55], ⟨fun h => hT.s0 h, fun h => hT.s1 h, fun h => hT.s2 h, fun h => hT.s3 h, fun h => hT.s4 h, fun h => hT.s5 h, fun h => hT.s6 h, fun h => hT.s8 h, fun h => hT.s12 h, fun h => hT.s13 h, fun h => hT.s14 h, fun h => hT.s15 h, fun h => hT.s17 h, fun h => hT.s21 h, fun h => hT.s22 h, fun h => hT.s23 h, fun h => hT.s24 h, fun h => hT.s27 h, fun h => hT.s28 h, fun h => hT.s30 h, fun _ => rfl, fun h => hT.s33 h, fun h => hT.s34 h⟩, ⟨hW.blk, hW.bel, hW.l0, hW.l1, hW.k0, hW.k1, hW.w0, hW.w1, hW.sep, hW.a7, hW.a9, hW.a10, hW.a16, hW.a18, hW.a19, hW.a25⟩⟩
        · have d31 : D 31 = true := hn 31 (needs_b (by kernel_rfl))
          have d20 : D 20 = true := hn 20 (needs_b (by kernel_rfl))
          have e56 := hT.s31 d31
          obtain ⟨xa, xn, xc, e46⟩ : ∃ a n c, u 46 = Value.slice a n c := by obtain ⟨a, c, e⟩ := (hW.k1 d20).val; exact ⟨_, _, _, e⟩
          have c0 : w.cell? ⟨w0.heap.size, 1, none⟩ = some vK := (hW.blk.cell 1).trans (by simp [hD])
          have f0 := hW.blk.frozen 1
          have ho : Only [w0.heap.size] w (w.setCell ⟨w0.heap.size, 1, none⟩ (.slice xa xn xc)) := Only.setCell _ _ (by simp) _
          have hbk := hW.blk.set_ 1 (.slice xa xn xc)
          have h8 : ∀ g ∈ [w0.heap.size], ∀ cur, ¬ Blk w g 5 cur ∧ ¬ Blk w g 26 cur := fun g hg cur => by
            obtain rfl : g = w0.heap.size := by simpa using hg
            exact ⟨fun e => Blk.ne_ e hW.blk (by decide) rfl, fun e => Blk.ne_ e hW.blk (by decide) rfl⟩
          have hws : ∀ (v : Value) n xs, w.ownsRow w0.heap.size 4 1 v n xs → (w.setCell ⟨w0.heap.size, 1, none⟩ (.slice xa xn xc)).ownsRow w0.heap.size 4 1 v n xs := fun v n xs q => ho.owns q fun g hg hm => by
            obtain ⟨cur, k⟩ := owns_blk q hg
            obtain rfl : g = w0.heap.size := by simpa using hm
            exact Blk.ne_ k hW.blk (by decide) rfl
          refine wpOp_plain rfl rfl ?_
          go_simp
          exact ⟨u, by first | rfl | simp [e56, e46], ⟨fun h => hT.s0 h, fun h => hT.s1 h, fun h => hT.s2 h, fun h => hT.s3 h, fun h => hT.s4 h, fun h => hT.s5 h, fun h => hT.s6 h, fun h => hT.s8 h, fun h => hT.s12 h, fun h => hT.s13 h, fun h => hT.s14 h, fun h => hT.s15 h, fun h => hT.s17 h, fun h => hT.s21 h, fun h => hT.s22 h, fun h => hT.s23 h, fun h => hT.s24 h, fun h => hT.s27 h, fun h => hT.s28 h, fun h => hT.s30 h, fun h => hT.s31 h, fun h => hT.s33 h, fun h => hT.s34 h⟩, ⟨(by show Blk _ _ _ #[cond (D 29) (u 37) vL, u 46, cond (D 35) (u 52) vW, .int .i64 (-1), .bool false, .int .i64 0]; rw [e46]; exact hbk), (Only.belowOf hW.bel ho hW.bel.size (by simp)), (fun q => (hW.l0 q).only ho h8), (fun q => (hW.l1 q).only ho h8), (fun q => (hW.k0 q).only ho h8), (fun q => (hW.k1 q).only ho h8), (fun q => hws _ _ _ (hW.w0 q)), (fun q => hws _ _ _ (hW.w1 q)), hW.sep, hW.a7, (fun q => (hW.a9 q).only ho fun g hg cur => (h8 g hg cur).1), (fun q r => by obtain ⟨b2, e2, k2⟩ := hW.a10 q r; exact ⟨b2, e2, ho.blk k2 (fun hm => (h8 _ hm _).2 k2)⟩), hW.a16, (fun q => (hW.a18 q).only ho fun g hg cur => (h8 g hg cur).1), (fun q r => by obtain ⟨b2, e2, k2⟩ := hW.a19 q r; exact ⟨b2, e2, ho.blk k2 (fun hm => (h8 _ hm _).2 k2)⟩), (fun q r => by obtain ⟨b2, e2, k2⟩ := hW.a25 q r; exact ⟨b2, e2, ho.blk k2 (fun hm => by obtain rfl : b2 = w0.heap.size := (by simpa using hm); exact Blk.ne_ k2 hW.blk (by decide) rfl)⟩)⟩⟩
        · have d2 : D 2 = true := hn 2 (needs_b (by kernel_rfl))
          have e28 := hT.s2 d2
          refine wpOp_plain rfl rfl ?_
          go_simp
          exact ⟨upd u 57 (.pointer (some ⟨w0.heap.size, 0, none⟩)), by first | rfl | simp [upd, e28], ⟨fun h => hT.s0 h, fun h => hT.s1 h, fun h => hT.s2 h, fun h => hT.s3 h, fun h => hT.s4 h, fun h => hT.s5 h, fun h => hT.s6 h, fun h => hT.s8 h, fun h => hT.s12 h, fun h => hT.s13 h, fun h => hT.s14 h, fun h => hT.s15 h, fun h => hT.s17 h, fun h => hT.s21 h, fun h => hT.s22 h, fun h => hT.s23 h, fun h => hT.s24 h, fun h => hT.s27 h, fun h => hT.s28 h, fun h => hT.s30 h, fun h => hT.s31 h, fun _ => rfl, fun h => hT.s34 h⟩, ⟨hW.blk, hW.bel, hW.l0, hW.l1, hW.k0, hW.k1, hW.w0, hW.w1, hW.sep, hW.a7, hW.a9, hW.a10, hW.a16, hW.a18, hW.a19, hW.a25⟩⟩
        · have d33 : D 33 = true := hn 33 (needs_b (by kernel_rfl))
          have e57 := hT.s33 d33
          refine wpOp_plain rfl rfl ?_
          go_simp
          exact ⟨upd u 58 (.pointer (some ⟨w0.heap.size, 2, none⟩)), by first | rfl | simp [upd, e57], ⟨fun h => hT.s0 h, fun h => hT.s1 h, fun h => hT.s2 h, fun h => hT.s3 h, fun h => hT.s4 h, fun h => hT.s5 h, fun h => hT.s6 h, fun h => hT.s8 h, fun h => hT.s12 h, fun h => hT.s13 h, fun h => hT.s14 h, fun h => hT.s15 h, fun h => hT.s17 h, fun h => hT.s21 h, fun h => hT.s22 h, fun h => hT.s23 h, fun h => hT.s24 h, fun h => hT.s27 h, fun h => hT.s28 h, fun h => hT.s30 h, fun h => hT.s31 h, fun h => hT.s33 h, fun _ => rfl⟩, ⟨hW.blk, hW.bel, hW.l0, hW.l1, hW.k0, hW.k1, hW.w0, hW.w1, hW.sep, hW.a7, hW.a9, hW.a10, hW.a16, hW.a18, hW.a19, hW.a25⟩⟩
        · have d34 : D 34 = true := hn 34 (needs_b (by kernel_rfl))
          have d26 : D 26 = true := hn 26 (needs_b (by kernel_rfl))
          have e58 := hT.s34 d34
          obtain ⟨xa, xn, xc, e52⟩ := (Sl.of_owns (hW.w1 d26)).val
          have c0 : w.cell? ⟨w0.heap.size, 2, none⟩ = some vW := (hW.blk.cell 2).trans (by simp [hD])
          have f0 := hW.blk.frozen 2
          have ho : Only [w0.heap.size] w (w.setCell ⟨w0.heap.size, 2, none⟩ (.slice xa xn xc)) := Only.setCell _ _ (by simp) _
          have hbk := hW.blk.set_ 2 (.slice xa xn xc)
          have h8 : ∀ g ∈ [w0.heap.size], ∀ cur, ¬ Blk w g 5 cur ∧ ¬ Blk w g 26 cur := fun g hg cur => by
            obtain rfl : g = w0.heap.size := by simpa using hg
            exact ⟨fun e => Blk.ne_ e hW.blk (by decide) rfl, fun e => Blk.ne_ e hW.blk (by decide) rfl⟩
          have hws : ∀ (v : Value) n xs, w.ownsRow w0.heap.size 4 1 v n xs → (w.setCell ⟨w0.heap.size, 2, none⟩ (.slice xa xn xc)).ownsRow w0.heap.size 4 1 v n xs := fun v n xs q => ho.owns q fun g hg hm => by
            obtain ⟨cur, k⟩ := owns_blk q hg
            obtain rfl : g = w0.heap.size := by simpa using hm
            exact Blk.ne_ k hW.blk (by decide) rfl
          refine wpOp_plain rfl rfl ?_
          go_simp
          exact ⟨u, by first | rfl | simp [e58, e52], ⟨fun h => hT.s0 h, fun h => hT.s1 h, fun h => hT.s2 h, fun h => hT.s3 h, fun h => hT.s4 h, fun h => hT.s5 h, fun h => hT.s6 h, fun h => hT.s8 h, fun h => hT.s12 h, fun h => hT.s13 h, fun h => hT.s14 h, fun h => hT.s15 h, fun h => hT.s17 h, fun h => hT.s21 h, fun h => hT.s22 h, fun h => hT.s23 h, fun h => hT.s24 h, fun h => hT.s27 h, fun h => hT.s28 h, fun h => hT.s30 h, fun h => hT.s31 h, fun h => hT.s33 h, fun h => hT.s34 h⟩, ⟨(by show Blk _ _ _ #[cond (D 29) (u 37) vL, cond (D 32) (u 46) vK, u 52, .int .i64 (-1), .bool false, .int .i64 0]; rw [e52]; exact hbk), (Only.belowOf hW.bel ho hW.bel.size (by simp)), (fun q => (hW.l0 q).only ho h8), (fun q => (hW.l1 q).only ho h8), (fun q => (hW.k0 q).only ho h8), (fun q => (hW.k1 q).only ho h8), (fun q => hws _ _ _ (hW.w0 q)), (fun q => hws _ _ _ (hW.w1 q)), hW.sep, hW.a7, (fun q => (hW.a9 q).only ho fun g hg cur => (h8 g hg cur).1), (fun q r => by obtain ⟨b2, e2, k2⟩ := hW.a10 q r; exact ⟨b2, e2, ho.blk k2 (fun hm => (h8 _ hm _).2 k2)⟩), hW.a16, (fun q => (hW.a18 q).only ho fun g hg cur => (h8 g hg cur).1), (fun q r => by obtain ⟨b2, e2, k2⟩ := hW.a19 q r; exact ⟨b2, e2, ho.blk k2 (fun hm => (h8 _ hm _).2 k2)⟩), (fun q r => by obtain ⟨b2, e2, k2⟩ := hW.a25 q r; exact ⟨b2, e2, ho.blk k2 (fun hm => by obtain rfl : b2 = w0.heap.size := (by simpa using hm); exact Blk.ne_ k2 hW.blk (by decide) rfl)⟩)⟩⟩
      case fin =>
        intro D a w hI hall
        obtain ⟨u, rfl, hT, hW⟩ := hI
        have hbk := hW.blk
        rw [hall 29 (by decide), hall 32 (by decide), hall 35 (by decide)] at hbk
        have hl1 := hW.l1 (hall 11 (by decide))
        have hk1 := hW.k1 (hall 20 (by decide))
        have hw1 := hW.w1 (hall 26 (by decide))
        have hsp := hW.sep
        rw [hall 11 (by decide), hall 20 (by decide)] at hsp
        rw [ht] at hl1 hk1
        have hrep : List.replicate k (Value.bool false) ++ [.bool false] = List.replicate (k + 1) (.bool false) := by rw [List.replicate_succ']
        rw [hrep] at hw1
        have HF := Lib.hid (show Blk w w0.heap.size 92 #[u 37, u 46, u 52, .int .i64 (-1), .bool false, .int .i64 0] ∧ OBs w w0.heap.size (u 37) (pss.take (k + 1)) ∧ OBs w w0.heap.size (u 46) (pss.take (k + 1)) ∧ w.ownsRow w0.heap.size 4 1 (u 52) (k + 1) (List.replicate (k + 1) (.bool false)) ∧ (∀ g, (u 37).ownBlock = some g → (u 46).ownBlock ≠ some g) ∧ Below w0.heap.size w0 w from ⟨hbk, hl1, hk1, hw1, hsp, hW.bel⟩)
        clear hbk hl1 hk1 hw1 hsp hW hT hrep hall
        go_wp2
        exact ⟨⟨k + 1, u 37, u 46, u 52, hlt, by go_num, HF.out.1, HF.out.2.1, HF.out.2.2.1, HF.out.2.2.2.1, HF.out.2.2.2.2.1, HF.out.2.2.2.2.2, (by rw [← HT.out]; intro q hq; rcases List.mem_append.1 hq with hq | hq; exact H64.out q hq; rw [List.mem_singleton.1 hq]; exact HP.out)⟩, by simp [intOf]; omega⟩
    · obtain rfl : k = pss.length := by omega
      have hkI : ¬ (pss.length : Int) < (pss.length : Int) := by omega
      rw [List.take_length] at h64
      obtain ⟨p, hp, hq⟩ := HH.out
      exact absurd (h64 p hp) hq

end Go.Proofs.YtgfkejecigefbaaDoor

namespace Go.Proofs.YtgfkejecigefbaaDoor
open Go.RowKit
set_option linter.unusedVariables false

theorem ofD_calm (pss : List (List Int)) : (ofD pss).calm := ⟨rfl, rfl⟩
theorem Pair.belowQ {w w' : World} {g b y gl gk gw : Nat} {d : DSt} (h : Pair w g b y gl gk gw d) (hb : Below w.heap.size w w') : Pair w' g b y gl gk gw d := ⟨h.dev.below hb, h.ref.below hb⟩

set_option maxRecDepth 100000 in
set_option maxHeartbeats 1000000 in
theorem opensNone (v : Value) (pss : List (List Int)) (w : World) (ht : Tabs w) (hv : Sls w v pss) (hlen : pss.length ≤ 100)
    (hD : ∀ w', Below w.heap.size w w' → Calls Tryd.prog 22 #[v] w' fun e w'' => e = .returned (.tuple #[.pointer none, .int .i64 1]) ∧ Below w'.heap.size w' w'')
    (hR : ∀ w', Below w.heap.size w w' → Calls Tryd.prog 23 #[v] w' fun e w'' => e = .returned (.tuple #[.pointer none, .int .i64 1]) ∧ Below w'.heap.size w' w'') :
    Calls Tryd.prog 6 #[v] w fun e w' => e = .returned (.bool true) ∧ Below w.heap.size w w' := by
  obtain ⟨va, vc, rfl, hvc, hvm⟩ := hv.shape
  have hI : ¬ (100 : Int) < (pss.length : Int) := by omega
  have HT := Lib.hid ht
  have HD := Lib.hid (hD w (Below.refl _ _))
  have HR := Lib.hid hR
  clear hD hR hv ht
  go_enter Tryd.func6, Tryd.ntmps6
  go_wp2_with fail
  refine HD.out.mono ?_
  rintro e w1 ⟨rfl, hb1⟩
  have HR1 := Lib.hid (HR.out w1 hb1)
  have HB1 := Lib.hid hb1
  clear hb1 HR HD
  go_wp2_with fail
  refine HR1.out.mono ?_
  rintro e w2 ⟨rfl, hb2⟩
  have HB2 := Lib.hid (below_trans2 HB1.out hb2)
  have HAW := Lib.hid (awake08_any w2 (HT.out.below HB2.out))
  clear hb2 HR1 HB1
  go_wp2_with fail
  refine HAW.out.mono ?_
  rintro e w3 ⟨rfl, hb3⟩
  have HB3 := Lib.hid (below_trans2 HB2.out hb3)
  clear hb3
  go_wp2
  go_ret
  exact ⟨rfl, HB3.out⟩

set_option maxRecDepth 100000 in
set_option maxHeartbeats 1000000 in
theorem opensMany (v : Value) (pss : List (List Int)) (w : World) (ht : Tabs w) (hv : Sls w v pss) (hlen : 100 < pss.length) :
    Calls Tryd.prog 6 #[v] w fun e w' => e = .returned (.bool true) ∧ Below w.heap.size w w' := by
  obtain ⟨va, vc, rfl, hvc, hvm⟩ := hv.shape
  have hI : (100 : Int) < (pss.length : Int) := by omega
  have HAW := Lib.hid (awake08_any w ht)
  clear hv ht
  go_enter Tryd.func6, Tryd.ntmps6
  go_wp2_with fail
  refine HAW.out.mono ?_
  rintro e w3 ⟨rfl, hb3⟩
  have HB3 := Lib.hid hb3
  clear hb3
  go_wp2
  go_ret
  exact ⟨rfl, HB3.out⟩

set_option maxRecDepth 100000 in
set_option maxHeartbeats 4000000 in
theorem opensGood (v : Value) (pss : List (List Int)) (w : World) (ht : Tabs w) (hv : Sls w v pss) (h1 : 1 ≤ pss.length) (hlen : pss.length ≤ 100) (hg64 : ∀ p ∈ pss, p.length = 64 ∧ IsB p) :
    Calls Tryd.prog 6 #[v] w fun e w' => e = .returned (.bool true) ∧ Below w.heap.size w w' := by
  have HT := Lib.hid ht
  have HOF := Lib.hid (dof_ok v pss w hv h1 (by omega) hg64)
  have HROF := Lib.hid (fun w' (hb : Below w.heap.size w w') => rof_ok v pss w' (hv.below hb (Nat.le_refl _)) h1 (by omega) hg64)
  have HCA := Lib.hid (ofD_calm pss)
  obtain ⟨va, vc, rfl, hvc, hvm⟩ := hv.shape
  have hI : ¬ (100 : Int) < (pss.length : Int) := by omega
  generalize ofD pss = d0 at *
  clear hv hg64 h1 hlen ht
  go_enter Tryd.func6, Tryd.ntmps6
  go_wp2_with fail
  refine HOF.out.mono ?_
  rintro e w1 ⟨g, b, rfl, hg, hb, hD1, hb1⟩
  have HR1 := Lib.hid (HROF.out w1 hb1)
  have HD1 := Lib.hid hD1
  have HB1 := Lib.hid hb1
  have HGE0 := Lib.hid (And.intro hg hb)
  clear hD1 hb1 hg hb HOF HROF
  go_wp2_with fail
  refine HR1.out.mono ?_
  rintro e w2 ⟨y, gl, gk, gw, rfl, hge, hR2, hb2⟩
  have HP2 := Lib.hid (show Pair w2 g b y gl gk gw d0 from ⟨HD1.out.below hb2, hR2⟩)
  have HB2 := Lib.hid (below_trans2 HB1.out hb2)
  have HGE := Lib.hid (show ∀ k ∈ [w2.heap.size, g, b, y, gl, gk, gw], w.heap.size ≤ k from by
    intro k hk
    rcases List.mem_cons.1 hk with rfl | hk
    · exact HB2.out.size
    rcases List.mem_cons.1 hk with rfl | hk
    · exact HGE0.out.1
    · rcases List.mem_cons.1 hk with rfl | hk
      · exact HGE0.out.2
      · exact Nat.le_trans HB1.out.size (hge k hk))
  have hbA : Below w2.heap.size w2 (w2.alloc (.cells #[.pointer none, .pointer none, .pointer (some ⟨g, 0, none⟩), .pointer (some ⟨y, 0, none⟩)] 61)) := (Below.refl _ _).alloc (Nat.le_refl _) _
  have HBA := Lib.hid (below_trans2 HB2.out hbA)
  have HOP := Lib.hid (popen_any _ w2.heap.size g b y gl gk gw d0 (HT.out.below HBA.out) (Blk.new w2 61 #[.pointer none, .pointer none, .pointer (some ⟨g, 0, none⟩), .pointer (some ⟨y, 0, none⟩)]) (HP2.out.belowQ hbA) HCA.out)
  clear hge hR2 hb2 HD1 HB1 HR1 HGE0 hbA
  go_wp2_with fail
  refine HOP.out.mono ?_
  rintro e w4 ⟨q, x, rfl, hB4, hO4⟩
  have HB4 := Lib.hid (Only.belowOf HBA.out hO4 HBA.out.size HGE.out)
  have HSM := Lib.hid (psame_any w4 _ _ _ _ _ _ _ _ _ _ _ hB4)
  clear hB4 hO4 HOP
  go_wp2_with fail
  refine HSM.out.mono ?_
  rintro e w5 ⟨rfl, hb5⟩
  have HB5 := Lib.hid (below_trans2 HB4.out hb5)
  have HAW := Lib.hid (awake08_any w5 (HT.out.below HB5.out))
  clear hb5 HSM HB4
  go_wp2_with fail
  refine HAW.out.mono ?_
  rintro e w6 ⟨rfl, hb6⟩
  have HB6 := Lib.hid (below_trans2 HB5.out hb6)
  clear hb6
  go_wp2
  go_ret
  exact ⟨rfl, HB6.out⟩

theorem seglogOpens_walk (v : Value) (pss : List (List Int)) (w : World) (ht : Tabs w) (hB : ∀ p ∈ pss, IsB p) (hv : Sls w v pss) :
    Calls Tryd.prog 6 #[v] w fun e w' => e = .returned (.bool true) ∧ Below w.heap.size w w' := by
  by_cases h100 : 100 < pss.length
  · exact opensMany v pss w ht hv h100
  · by_cases h1 : 1 ≤ pss.length
    · by_cases hg : ∀ p ∈ pss, p.length = 64
      · exact opensGood v pss w ht hv h1 (by omega) (fun p hp => ⟨hg p hp, hB p hp⟩)
      · have hg' : ∃ p ∈ pss, p.length ≠ 64 := by simpa using hg
        exact opensNone v pss w ht hv (by omega) (fun w' hb => dof_bad v pss w' (hv.below hb (Nat.le_refl _)) h1 (by omega) hg') (fun w' hb => rof_bad v pss w' (hv.below hb (Nat.le_refl _)) h1 (by omega) hg')
    · exact opensNone v pss w ht hv (by omega)
        (fun w' hb => (dof_no v pss w' (hv.below hb (Nat.le_refl _)) (by omega)).mono (by rintro e w2 ⟨rfl, rfl⟩; exact ⟨rfl, Below.refl _ _⟩))
        (fun w' hb => (rof_no v pss w' (hv.below hb (Nat.le_refl _)) (by omega)).mono (by rintro e w2 ⟨rfl, rfl⟩; exact ⟨rfl, Below.refl _ _⟩))

end Go.Proofs.YtgfkejecigefbaaDoor

namespace Go.Proofs.YtgfkejecigefbaaDoor
open Go.RowKit
set_option linter.unusedVariables false

theorem Sls.opened {W : World} {a : Addr} {base len cap : Nat} {A : Nat → Option Addr} {L C : Nat → Nat} {Z : Nat → List Int} (hl : len ≤ cap) (hm : cap ≤ maxLen)
    (hrow : ∀ r, r < cap → W.cell? (a.add r) = some (.slice (A r) (L r) (C r)) ∧ L r ≤ C r ∧ C r ≤ maxLen ∧ (Z r).length = C r ∧ (∀ n ∈ Z r, (Lit.int .u8 n).wf = true) ∧ (A r = none → C r = 0) ∧
      ∀ a', A r = some a' → base ≤ a'.block ∧ ∀ c, c < C r → W.cell? (a'.add c) = some (.int .u8 ((Z r).getD c 0))) :
    Sls W (.slice (some a) len cap) ((List.range len).map fun r => (Z r).take (L r)) := by
  refine ⟨(List.range len).map fun r => .slice (A r) (L r) (C r), ?_, by simp, fun i u bs hu hp => ?_⟩
  · have hlen : ((List.range len).map fun r => Value.slice (A r) (L r) (C r)).length = len := by simp
    refine ⟨some a, cap, by rw [hlen], by rw [hlen]; exact hl, hm, fun hp => ?_⟩
    rw [hlen] at hp
    obtain ⟨b, off, spot⟩ := a
    have h0 := (hrow 0 (by omega)).1
    have hspot : spot = none := by simpa [Addr.add] using World.cell?_spot h0
    subst hspot
    refine ⟨b, off, rfl, ?_, fun j u hu => ?_⟩
    · rcases Nat.lt_or_ge b W.heap.size with h | h
      · exact h
      · simp [Addr.add, World.cell?, Array.getElem?_eq_none h] at h0
    · have hj : j < len := by
        rcases Nat.lt_or_ge j len with h | h
        · exact h
        · rw [List.getElem?_eq_none (by omega)] at hu; cases hu
      rw [List.getElem?_map, List.getElem?_range hj] at hu
      simp only [Option.map_some, Option.some.injEq] at hu
      subst hu
      have h1 := (hrow j (by omega)).1
      have e : (⟨b, off, none⟩ : Addr).add j = ⟨b, off + j, none⟩ := by
        simp only [Addr.add]; split <;> simp_all
      rw [e] at h1
      exact h1
  · have hi : i < len := by
      rcases Nat.lt_or_ge i len with h | h
      · exact h
      · rw [List.getElem?_eq_none (by simpa using h)] at hu; cases hu
    rw [List.getElem?_map, List.getElem?_range hi] at hu hp
    simp only [Option.map_some, Option.some.injEq] at hu hp
    subst hu hp
    obtain ⟨_, h1, h2, h3, _, h5, h6⟩ := hrow i (by omega)
    cases hA : A i with
    | none =>
      have hc := h5 hA
      have hz : Z i = [] := List.length_eq_zero_iff.1 (by omega)
      rw [hz, hc, show L i = 0 by omega]
      exact Sl.nil W
    | some a' => exact Sl.opened h1 h2 h3 (fun c hc => (h6 a' hA).2 c (by omega))

theorem opened_isB {W : World} {a : Addr} {base len cap : Nat} {A : Nat → Option Addr} {L C : Nat → Nat} {Z : Nat → List Int} (hl : len ≤ cap)
    (hrow : ∀ r, r < cap → W.cell? (a.add r) = some (.slice (A r) (L r) (C r)) ∧ L r ≤ C r ∧ C r ≤ maxLen ∧ (Z r).length = C r ∧ (∀ n ∈ Z r, (Lit.int .u8 n).wf = true) ∧ (A r = none → C r = 0) ∧
      ∀ a', A r = some a' → base ≤ a'.block ∧ ∀ c, c < C r → W.cell? (a'.add c) = some (.int .u8 ((Z r).getD c 0))) :
    ∀ p ∈ (List.range len).map (fun r => (Z r).take (L r)), ∀ n ∈ p, (Lit.int .u8 n).wf = true := by
  intro p hp n hn
  obtain ⟨r, hr, rfl⟩ := List.mem_map.1 hp
  have hr : r < len := by simpa using hr
  exact (hrow r (by omega)).2.2.2.2.1 n (List.mem_of_mem_take hn)

end Go.Proofs.YtgfkejecigefbaaDoor
