
/- bytes.Repeat of one byte, a few thousand times. -/
import Derived.Test.YtgfkejecigefbaaDoorDvE
import Derived.Test.YtgfkejecigefbaaDoorMake
import Derived.Laws.Bits64b
import Derived.Lib.MakeNoZero
import Derived.Laws.CopyOwn
import Derived.Deep.RegionLaw
import Derived.Deep.Cut
namespace Go.Proofs.YtgfkejecigefbaaDoor
open Go.RowKit
set_option linter.unusedVariables false

set_option maxHeartbeats 1000000 in
theorem mul64_one (n : Nat) (hn : n ≤ 100000) (w : World) :
    Calls Tryd.prog 72 #[.int .u64 1, .int .u64 n] w fun e w' => e = .returned (.tuple #[.int .u64 0, .int .u64 n]) ∧ w = w' := by
  have h1 : bits .and .u64 1 4294967295 = 1 := by decide
  have h0 : bits .and .u64 0 4294967295 = 0 := by decide
  have hm : bits .and .u64 (n : Int) 4294967295 = n := by
    have h := bits_and_u64_nat n 4294967295 (by omega) (by omega)
    have e : n &&& 4294967295 = n % 4294967296 := Nat.and_two_pow_sub_one_eq_mod n 32
    rw [e, Nat.mod_eq_of_lt (by omega)] at h
    exact h
  have hd : (n : Int) / 4294967296 = 0 := by omega
  have hw : IntKind.u64.wrap (n : Int) = n := by rw [IntKind.wrap_u64]; omega
  go_enter Tryd.func72, Tryd.ntmps72
  go_wp2
  go_ret2
  exact ⟨rfl, rfl⟩
theorem mul_one_any (n : Nat) (hn : n ≤ 100000) (w : World) :
    Calls Tryd.prog 50 #[.int .u64 1, .int .u64 n] w fun e w' => e = .returned (.tuple #[.int .u64 0, .int .u64 n]) ∧ w = w' := by
  have HM := Lib.hid (mul64_one n hn w)
  have hw : IntKind.u64.wrap (n : Int) = n := by rw [IntKind.wrap_u64]; omega
  go_enter Tryd.func50, Tryd.ntmps50
  go_wp2_with fail
  refine HM.out.mono ?_
  rintro e w1 ⟨rfl, rfl⟩
  go_wp2
  go_ret2
  exact ⟨rfl, rfl⟩

theorem splice_rep {cur : List Value} {p q : Nat} {u : Value} (h : cur.take p = List.replicate p u) (hl : p + q ≤ cur.length) : (splice cur p (List.replicate q u)).take (p + q) = List.replicate (p + q) u ∧ (splice cur p (List.replicate q u)).length = cur.length := by
  unfold splice
  rw [h, List.length_replicate]
  refine ⟨?_, by simp; omega⟩
  rw [← List.append_assoc, List.replicate_append_replicate, List.take_append_of_le_length (by simp), List.take_of_length_le (by simp)]

theorem wpList_copy_at {w : World} {ops : Array Oper} {rest : List Oper} {o : Oper} {a : Act} {Q : Exit → Act → World → Prop} (hgd : o.guard = none) (d s : Operand)
    (ho : o.op = .call { callee := .builtin .copy, args := #[d, s], argTypes := #[26, 26] })
    (g off dLen dCap : Nat) (ad : Addr) (sLen sCap : Nat) (hd : a.eval d = .slice (some ⟨g, off, none⟩) dLen dCap) (hs : a.eval s = .slice (some ad) sLen sCap)
    (cur : List Value) (hg : w.heap[g]? = some (.cells cur.toArray 5 (0, 0))) (cs : List Value) (hn : cs.length = Nat.min sLen dLen)
    (hsrc : ∀ j v, cs[j]? = some v → w.cell? (ad.add j) = some v)
    (hfit : off + cs.length ≤ cur.length) (h1 : ∀ v ∈ cs, v.oneCell' = true) (B : Nat) (w0 : World) (hb : Below B w0 w) (hBg : B ≤ g)
    (h : ∀ w', Hid (w'.heap[g]? = some (.cells (splice cur off cs).toArray 5 (0, 0))) → Below B w0 w' → wpList Tryd.prog ops Q rest (a.put o.dst (goInt cs.length)) w') :
    wpList Tryd.prog ops Q (o :: rest) a w :=
  wpList_copy_splice hgd d s _ _ ho 5 Tryd.underlying26 infoSize8 (some ⟨g, off, none⟩) (some ad) dLen dCap sLen sCap hd hs g off cur 5 hg cs hn (fun _ => ⟨rfl, ad, rfl, hsrc⟩) hfit h1 B w0 hb hBg h
theorem step_copy_at {ops : Array Oper} {o : Oper} {a : Act} {w : World} {K : Act → World → Prop} {Q : Exit → Act → World → Prop} {E : Prop} (hgd : o.guard = none) (d s : Operand)
    (ho : o.op = .call { callee := .builtin .copy, args := #[d, s], argTypes := #[26, 26] })
    (g off dLen dCap : Nat) (ad : Addr) (sLen sCap : Nat) (hd : a.eval d = .slice (some ⟨g, off, none⟩) dLen dCap) (hs : a.eval s = .slice (some ad) sLen sCap)
    (cur : List Value) (hg : w.heap[g]? = some (.cells cur.toArray 5 (0, 0))) (cs : List Value) (hn : cs.length = Nat.min sLen dLen)
    (hsrc : ∀ j v, cs[j]? = some v → w.cell? (ad.add j) = some v)
    (hfit : off + cs.length ≤ cur.length) (h1 : ∀ v ∈ cs, v.oneCell' = true) (B : Nat) (w0 : World) (hb : Below B w0 w) (hBg : B ≤ g)
    (h : ∀ w', Hid (w'.heap[g]? = some (.cells (splice cur off cs).toArray 5 (0, 0))) → Below B w0 w' → K (a.put o.dst (goInt cs.length)) w') :
    if Region.wanted o (yielded ops a.tmps) = true then Oper.wp Tryd.prog o a w K Q else E :=
  step_copy_splice hgd d s _ _ ho 5 Tryd.underlying26 infoSize8 (some ⟨g, off, none⟩) (some ad) dLen dCap sLen sCap hd hs g off cur 5 hg cs hn (fun _ => ⟨rfl, ad, rfl, hsrc⟩) hfit h1 B w0 hb hBg h

set_option maxRecDepth 100000 in
set_option maxHeartbeats 2000000 in
theorem repeat_any (x : Int) (n : Nat) (v : Value) (w : World) (hn1 : 1 ≤ n) (hn : n ≤ 8192) (hs : Sl w v [Value.int .u8 x]) :
    Calls Tryd.prog 26 #[v, .int .i64 n] w fun e w' => e = .returned (.slice (some ⟨w.heap.size, 0, none⟩) n n) ∧ Sl w' (.slice (some ⟨w.heap.size, 0, none⟩) n n) ((List.replicate n x).map (Value.int .u8)) ∧ (∃ cur, Blk w' w.heap.size 5 cur) ∧ Below w.heap.size w w' := by
  have HM := Lib.hid (mul_one_any n (by omega) w)
  have hw : IntKind.u64.wrap (n : Int) = n := by rw [IntKind.wrap_u64]; omega
  have hw2 : IntKind.i64.wrap (n : Int) = n := by rw [IntKind.wrap_i64]; omega
  obtain ⟨va, vc, rfl, hvc, hvm⟩ := hs.shape
  obtain ⟨b, o, rfl, hb, hc⟩ := hs.addr (by simp)
  have hz : ((n : Int) == 0) = false := by rw [beq_eq_false_iff_ne]; omega
  have hz2 : ¬ (n : Int) < 0 := by omega
  have hz3 : decide ((9223372036854775807 : Int) < (n : Int)) = false := by rw [decide_eq_false_iff_not]; omega
  have hz4 : decide ((8192 : Int) < (n : Int)) = false := by rw [decide_eq_false_iff_not]; omega
  obtain ⟨cs, hrunM, hle, hlm⟩ := Lib.run_makeNoZero (P := Tryd.prog) w #[3] 26 5 Tryd.underlying26 n (by omega)
  have hcall : (callFunc 51 #[.int .i64 (n : Int)]).run Tryd.prog w = .ok (.value (.slice (some ⟨w.heap.size, 0, none⟩) n cs.size)) ((w.alloc (.cells cs 5)).drewN 2) := by
    rw [run_callFunc_extern Tryd.func51 (by kernel_rfl) (by kernel_rfl) (by kernel_rfl) (e := Extern.BytealgMakeNoZero.makeNoZero #[3] #[26]) (by kernel_rfl), hrunM]
    rfl
  have hbA : Below w.heap.size w ((w.alloc (.cells cs 5)).drewN 2) := below_drewN ((Below.refl _ _).alloc (Nat.le_refl _) _) 2
  have kA : Blk ((w.alloc (.cells cs 5)).drewN 2) w.heap.size 5 cs.toList.toArray := by
    rw [Array.toArray_toList]; exact (Blk.new w 5 cs).drewN 2
  have hcA : ((w.alloc (.cells cs 5)).drewN 2).cell? ⟨b, o, none⟩ = some (.int .u8 x) := (hbA.cell (p := ⟨b, o, none⟩) hb).trans (by have := hc 0 _ rfl; simpa using this)
  have i1 : (n : Int) ≤ (cs.size : Int) := by omega
  clear hrunM hs hc
  go_enter Tryd.func26, Tryd.ntmps26
  go_wp2_with fail
  refine HM.out.mono ?_
  rintro e w1 ⟨rfl, rfl⟩
  have HKA := Lib.hid (show ((w.alloc (.cells cs 5)).drewN 2).heap[w.heap.size]? = some (.cells cs.toList.toArray 5 (0, 0)) from kA)
  have HC1 := Lib.hid (show [Value.int .u8 x].length = Nat.min 1 n from by show 1 = min 1 n; omega)
  have HC2 := Lib.hid (show ∀ j v, [Value.int .u8 x][j]? = some v → ((w.alloc (.cells cs 5)).drewN 2).cell? ((⟨b, o, none⟩ : Addr).add j) = some v from
    fun j u hu => by
      match j, hu with
      | 0, hu => simp at hu; subst hu; rw [add_plain0]; exact hcA
      | j + 1, hu => simp at hu)
  have HC3 := Lib.hid (show 0 + [Value.int .u8 x].length ≤ cs.toList.length from by simp; omega)
  have HC4 := Lib.hid (show ∀ v ∈ [Value.int .u8 x], v.oneCell' = true from by simp [Value.oneCell'])
  have HLC := Lib.hid (show cs.toList.length = cs.size ∧ n ≤ cs.size ∧ cs.size ≤ 9223372036854775807 from ⟨by simp, hle, by have := hlm (by unfold maxLen; omega); unfold maxLen at this; exact this⟩)
  go_wp2_with (with_reducible refine wpList_copy_at rfl _ _ rfl w.heap.size 0 n n ⟨b, o, none⟩ 1 vc rfl rfl cs.toList HKA.out [Value.int .u8 x] HC1.out HC2.out HC3.out HC4.out w.heap.size w hbA (Nat.le_refl _) ?_)
  intro w2 hk2 hb2
  obtain ⟨C, hC⟩ : ∃ C, C = splice cs.toList 0 [Value.int .u8 x] := ⟨_, rfl⟩
  have hC1 : C.take 1 = List.replicate 1 (Value.int .u8 x) ∧ C.length = cs.toList.length := by
    rw [hC]; exact splice_rep (q := 1) (by simp) HC3.out
  rw [← hC] at hk2
  have HC0 := Lib.hid (show Blk w2 w.heap.size 5 C.toArray ∧ C.take 1 = List.replicate 1 (Value.int .u8 x) ∧ C.length = cs.size from ⟨hk2.out, hC1.1, hC1.2.trans HLC.out.1⟩)
  have HB2 := Lib.hid hb2
  clear hk2 hb2 hC hC1 kA hbA hcA hcall
  go_wp2
  go_loopw [10, 11] (fun p _ wr => ∃ (k : Nat) (D : List Value), 1 ≤ k ∧ k ≤ n ∧ p = .int .i64 k ∧ Blk wr w.heap.size 5 D.toArray ∧ D.take k = List.replicate k (Value.int .u8 x) ∧ D.length = cs.size ∧ Below w.heap.size w wr) (fun p _ _ => n - (intOf p).toNat)
  case atStart => exact ⟨1, C, by omega, by omega, rfl, HC0.out.1, HC0.out.2.1, HC0.out.2.2, HB2.out⟩
  case round =>
    obtain ⟨k, D, hk1, hk, rfl, hkD, hDt, hDl, hbr⟩ := hrel
    by_cases hlt : k < n
    · have hkI : (k : Int) < (n : Int) := by omega
      have hmin : min (k : Int) (n : Int) = k := by omega
      have hnk : ¬ (n = k) := by omega
      obtain ⟨q, hq⟩ : ∃ q, q = Nat.min k (n - k) := ⟨_, rfl⟩
      have hq1 : 1 ≤ q ∧ q ≤ k ∧ k + q ≤ n := by
        have : q = min k (n - k) := hq
        omega
      have hDat : ∀ j, j < k → D[j]? = some (Value.int .u8 x) := fun j hj => by
        have := congrArg (fun l => l[j]?) hDt
        simp only [List.getElem?_take, List.getElem?_replicate, if_pos hj] at this
        exact this
      have HKD := Lib.hid (show wr.drew.heap[w.heap.size]? = some (.cells D.toArray 5 (0, 0)) from hkD)
      have HD1 := Lib.hid (show (List.replicate q (Value.int .u8 x)).length = Nat.min k (n - k) from by rw [List.length_replicate]; exact hq)
      have HD2 := Lib.hid (show ∀ j v, (List.replicate q (Value.int .u8 x))[j]? = some v → wr.drew.cell? ((⟨w.heap.size, 0, none⟩ : Addr).add j) = some v from
        fun j u hu => by
          rw [List.getElem?_replicate] at hu
          split at hu
          · rename_i hj
            cases hu
            rw [add_plain0]
            have := hkD.cell (0 + j)
            rw [Nat.zero_add] at this ⊢
            show wr.cell? _ = _
            rw [this, List.getElem?_toArray]
            exact hDat j (by omega)
          · cases hu)
      have HD3 := Lib.hid (show k + (List.replicate q (Value.int .u8 x)).length ≤ D.length from by rw [List.length_replicate, hDl]; have := HLC.out.2.1; omega)
      have HD4 := Lib.hid (show ∀ v ∈ List.replicate q (Value.int .u8 x), v.oneCell' = true from fun v hv => by obtain ⟨_, rfl⟩ := List.mem_replicate.1 hv; rfl)
      have HSP := Lib.hid (splice_rep (q := q) hDt (by rw [hDl]; have := HLC.out.2.1; omega))
      have HQL := Lib.hid (show ((List.replicate q (Value.int .u8 x)).length : Int) = q from by simp)
      have HDL := Lib.hid hDl
      have HBR := Lib.hid hbr.drew
      generalize hR : List.replicate q (Value.int .u8 x) = R at *
      clear hkD hDt hDl hDat hbr hq hR
      go_wp2
      go_region_law (refine step_copy_at rfl (.tmp 70) (.tmp 73) rfl w.heap.size k (n - k) (n - k) ⟨w.heap.size, 0, none⟩ k n ?_ ?_ D HKD.out R HD1.out HD2.out HD3.out HD4.out w.heap.size w HBR.out (Nat.le_refl _) ?_; (focus (go_simp; done)); (focus (go_simp; done)); intro w3 hk3 hb3)
      all_goals
        go_wp2
        have hl : R.length = q := by have := HQL.out; omega
        have hwr : (IntKind.i64.wrap ((k : Int) + (q : Int))) = ((k + q : Nat) : Int) := by rw [IntKind.wrap_i64]; omega
        go_simp
        exact ⟨⟨k + q, by omega, hq1.2.2, by push_cast; rfl, splice D k R, hk3.out, HSP.out.1, HSP.out.2.trans HDL.out⟩, by simp [intOf]; omega⟩
    · obtain rfl : k = n := by omega
      have hkI : ¬ (k : Int) < (k : Int) := by omega
      have HF := Lib.hid (show Sl wr (.slice (some ⟨w.heap.size, 0, none⟩) k k) ((List.replicate k x).map (Value.int .u8)) from by
        refine ⟨_, k, by simp, by simp, by have := HLC.out; unfold maxLen; omega, fun _ => ⟨w.heap.size, 0, rfl, hkD.lt, fun j u hu => ?_⟩⟩
        rw [List.getElem?_map, List.getElem?_replicate] at hu
        split at hu
        · rename_i hj
          cases hu
          have := hkD.cell (0 + j)
          rw [this, Nat.zero_add, List.getElem?_toArray]
          have h2 := congrArg (fun l => l[j]?) hDt
          simp only [List.getElem?_take, List.getElem?_replicate, if_pos hj] at h2
          exact h2
        · cases hu)
      have HKD := Lib.hid hkD
      have HBR := Lib.hid hbr
      clear hkD hDt hDl hbr
      go_wp2
      go_ret
      exact ⟨rfl, by rw [List.map_replicate] at HF; exact HF.out, ⟨_, HKD.out⟩, HBR.out⟩

end Go.Proofs.YtgfkejecigefbaaDoor
