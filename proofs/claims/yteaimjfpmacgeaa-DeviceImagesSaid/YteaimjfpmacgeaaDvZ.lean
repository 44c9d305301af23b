/- A device: Of takes good texts. -/
import Derived.Test.YteaimjfpmacgeaaDvX
import Derived.Test.YteaimjfpmacgeaaFill
import Derived.Test.YteaimjfpmacgeaaDvS
import Derived.Test.YteaimjfpmacgeaaRvF
import Derived.Deep.Cut
namespace Go.Proofs.Yteaimjfpmacgeaa
open Go.RowKit
set_option linter.unusedVariables false

def secOf (p : List Int) : Sec := { now := p, kept := p, waits := false }

/-- The call's slots in the region. -/
abbrev dzAct (y sb : Nat) (p : List Int) (x0 x1 x2 x3 x5 x6 x8 x9 x10 x11 x12 x13 x14 x15 x16 x17 x18 x19 x20 x21 x22 x23 x24 x38 x39 : Value) (u : Nat → Value) : Act := { tmps := #[x0, x1, x2, x3, .pointer (some ⟨y, 0, none⟩), x5, x6, .pointer (some ⟨sb, 0, none⟩), x8, x9, x10, x11, x12, x13, x14, x15, x16, x17, x18, x19, x20, x21, x22, x23, x24, (.agg (p.map (Value.int .u8)).toArray), u 26, u 27, u 28, u 29, u 30, u 31, u 32, u 33, u 34, u 35, u 36, u 37, x38, x39], defers := [] }
structure DzT (y : Nat) (vL : Value) (p : List Int) (D : Nat → Bool) (u : Nat → Value) : Prop where
  s0 : D 0 = true → u 26 = .pointer (some ⟨y, 0, none⟩)
  s1 : D 1 = true → u 27 = .pointer (some ⟨y, 0, none⟩)
  s2 : D 2 = true → u 28 = .pointer (some ⟨y, 0, none⟩)
  s3 : D 3 = true → u 29 = .pointer (some ⟨y, 0, none⟩)
  s4 : D 4 = true → u 30 = vL
  s5 : D 5 = true → u 31 = (.agg (p.map (Value.int .u8)).toArray)
  s6 : D 6 = true → u 32 = (.agg (p.map (Value.int .u8)).toArray)
  s7 : D 7 = true → u 33 = .agg (secArr ⟨p, p, false⟩)
  s10 : D 10 = true → u 36 = .pointer (some ⟨y, 0, none⟩)
  s11 : D 11 = true → u 37 = .pointer (some ⟨y, 0, none⟩)
structure DzW (y sb : Nat) (vL : Value) (X : List Sec) (p : List Int) (W : World) (D : Nat → Bool) (u : Nat → Value) (w : World) : Prop where
  blk : Blk w y 47 #[cond (D 12) (u 35) vL, .bool false, .bool false, .int .i64 0, .int .i64 0]
  bel : Below W.heap.size W w
  kS : Blk w sb 79 (p.map (Value.int .u8)).toArray
  l0 : D 9 = false → SOwn w W.heap.size vL X
  l1 : D 9 = true → SOwn w W.heap.size (u 35) (X ++ [(⟨p, p, false⟩ : Sec)])
  a8 : D 8 = true → D 9 = false → ∃ b, u 34 = .slice (some ⟨b, 0, none⟩) 1 1 ∧ Blk w b 81 (secArr ⟨p, p, false⟩)
def dzInv (y sb : Nat) (vL : Value) (X : List Sec) (p : List Int) (W : World) (x0 x1 x2 x3 x5 x6 x8 x9 x10 x11 x12 x13 x14 x15 x16 x17 x18 x19 x20 x21 x22 x23 x24 x38 x39 : Value) (D : Nat → Bool) (a : Act) (w : World) : Prop :=
  ∃ u, a = dzAct y sb p x0 x1 x2 x3 x5 x6 x8 x9 x10 x11 x12 x13 x14 x15 x16 x17 x18 x19 x20 x21 x22 x23 x24 x38 x39 u ∧ DzT y vL p D u ∧ DzW y sb vL X p W D u w
theorem SOwn.below {w w' : World} {base : Nat} {v : Value} {l : List Sec} (h : SOwn w base v l) (hb : Below w.heap.size w w') : SOwn w' base v l := ownsRow_below h hb (Nat.le_refl _)

set_option maxRecDepth 100000 in
set_option maxHeartbeats 1000000 in
theorem dof_ok (v : Value) (pss : List (List Int)) (w0 : World) (hv : Sls w0 v pss) (h1 : 1 ≤ pss.length) (h2 : pss.length ≤ 16384) (hl : ∀ p ∈ pss, p.length = 64 ∧ IsB p) :
    Calls Try.prog 33 #[v] w0 fun e w' => ∃ g b, e = .returned (.tuple #[.pointer (some ⟨g, 0, none⟩), .int .i64 0]) ∧ w0.heap.size ≤ g ∧ w0.heap.size ≤ b ∧ Dev w' g b (ofD pss) ∧ Below w0.heap.size w0 w' := by
  have HV := Lib.hid hv
  obtain ⟨va, vc, rfl, hvc, hvm⟩ := hv.shape
  have HM := Lib.hid (dmay_any pss.length w0)
  rw [show mayD pss.length = true from decide_eq_true (by omega)] at HM
  have hbA : Below w0.heap.size w0 (w0.alloc (.cells #[.slice none 0 0, .bool false, .bool false, .int .i64 0, .int .i64 0] 47)) := (Below.refl _ _).alloc (Nat.le_refl _) _
  have kA := Blk.new w0 47 #[.slice none 0 0, .bool false, .bool false, .int .i64 0, .int .i64 0]
  have HBA := Lib.hid hbA
  have HKA := Lib.hid kA
  have HH := Lib.hid hl
  clear hv hbA kA hl
  go_enter Try.func33, Try.ntmps33
  go_wp2_with fail
  refine HM.out.mono ?_
  rintro e w1 ⟨rfl, rfl⟩
  go_upto_region 5 with (fail)
  generalize (w0.alloc (.cells #[.slice none 0 0, .bool false, .bool false, .int .i64 0, .int .i64 0] 47)) = wA at *
  go_loopw [16] (fun i wr => ∃ (k : Nat) (vL : Value), k ≤ pss.length ∧ i = .int .i64 k ∧ Blk wr w0.heap.size 47 #[vL, .bool false, .bool false, .int .i64 0, .int .i64 0] ∧ SOwn wr w0.heap.size vL ((pss.take k).map secOf) ∧ Below w0.heap.size w0 wr) (fun i _ => pss.length - (intOf i).toNat)
  case atStart => exact ⟨0, _, by omega, rfl, HKA.out, World.ownsRow_nil _ _ _ _, HBA.out⟩
  case round =>
    obtain ⟨k, vL, hk, rfl, hY, hL, hb⟩ := hrel
    by_cases hlt : k < pss.length
    · have hkI : (k : Int) < (pss.length : Int) := by omega
      obtain ⟨b, off, rfl, hbb, uu, hcu, hu⟩ := HV.out.at hlt
      have hcu := (hb.cell (p := ⟨b, off + k, none⟩) hbb).trans hcu
      rw [show pss.getD k [] = pss[k] from by rw [List.getD_eq_getElem?_getD, List.getElem?_eq_getElem hlt]; rfl] at hu
      have hp := HH.out _ (List.getElem_mem hlt)
      have ht : (pss.take k).map secOf ++ [secOf pss[k]] = (pss.take (k + 1)).map secOf := by rw [List.map_take, List.map_take, show secOf pss[k] = (pss.map secOf)[k]'(by simpa using hlt) from by simp, List.take_append_getElem]
      have hX : ((pss.take k).map secOf).length = k := by simp; omega
      generalize pss[k] = p at *
      generalize (pss.take k).map secOf = X at *
      obtain ⟨ta, tc, rfl, htc, htm⟩ := hu.shape
      obtain ⟨tb, to_, rfl, htb, hcl⟩ := hu.ints (k := 0) (by omega)
      have hrg : wr.rangeAt tb to_ (p.map (Value.int .u8)) := fun m u hm => by
        have hmp : m < p.length := by have := (List.getElem?_eq_some_iff.1 hm).1; simpa using this
        rw [hb.cell (p := ⟨tb, to_ + m, none⟩) htb, hcl m hmp, ← hm, List.getElem?_map, List.getElem?_eq_getElem hmp, List.getD_eq_getElem?_getD, List.getElem?_eq_getElem hmp]; rfl
      have HP := Lib.hid hp.1
      rw [List.length_map, hp.1] at hcu htc
      have HRG := Lib.hid hrg
      have HT := Lib.hid ht
      have HPB := Lib.hid hp.2
      have HY := Lib.hid hY
      have HL := Lib.hid hL
      have HX := Lib.hid hX
      have HBR := Lib.hid hb
      clear hu hp hcl hrg ht hY hL hX hb
      have hsa := fun w' => run_toArray tb to_ tc w'
      go_upto_region 10 with (first
        | (with_reducible refine wpList_load_mid rfl _ _ rfl tb to_ rfl (p.map (Value.int .u8)) _ HRG.out Try.underlying79 rfl (size64L HP.out) ?_)
        | (refine wpList_allocTo rfl _ rfl (.pointer (some ⟨wr.heap.size, 0, none⟩)) (.cells z64 79) (by kernel_rfl) ?_)
        | (refine wpList_store_row rfl 79 _ _ rfl wr.heap.size (p.map (Value.int .u8)).toArray rfl rfl 79 z64 (heap_alloc_new _ _) (by rw [List.size_toArray]; exact size64L HP.out) (by simp [z64, HP.out]) (all_oneCell_toArray (oneB _)) ?_))
      generalize hwS : (World.setRow (wr.alloc _) wr.heap.size _) = wS
      have kS : Blk wS wr.heap.size 79 (p.map (Value.int .u8)).toArray := by rw [← hwS]; exact setRow_heap _ _ _ _ _ _ (heap_alloc_new _ _)
      have hbS : Below wr.heap.size wr wS := by
        rw [← hwS]
        exact ⟨rfl, rfl, rfl, by simp, fun k hk => (setRow_other _ _ _ _ (by omega)).trans (Below.heap_alloc _ _ _ hk)⟩
      have hYS := HY.out.belowS hbS
      have hLS := HL.out.below hbS
      have hBS := below_trans2 HBR.out hbS
      clear hwS
      refine wp_region_inv2 (dzInv w0.heap.size wr.heap.size vL X p w0 (.slice (some ⟨b, off, none⟩) pss.length vc) undef u2 u3 undef (.slice (some ⟨tb, to_, none⟩) 64 tc) (.slice (some ⟨b, off, none⟩) pss.length vc) (.int .i64 pss.length) (.bool true) (.bool false) (.agg #[.slice none 0 0, .bool false, .bool false, .int .i64 0, .int .i64 0]) (.pointer (some ⟨w0.heap.size, 0, none⟩)) (.slice (some ⟨b, off, none⟩) pss.length vc) (.int .i64 pss.length) (.int .i64 k) (.bool true) (.pointer (some ⟨b, off + k, none⟩)) (.slice (some ⟨tb, to_, none⟩) 64 tc) (.slice (some ⟨tb, to_, none⟩) 64 tc) (.int .i64 64) (.bool false) (.slice (some ⟨tb, to_, none⟩) 64 tc) (.pointer (some ⟨tb, to_, none⟩)) u38 undef) (by kernel_rfl) (by kernel_rfl) ?start ?step ?fin
      case start =>
        refine ⟨fun k => (#[u26, u27, u28, u29, u30, u31, u32, u33, u34, u35, u36, u37] : Array Value).getD (k - 26) undef, rfl, ?_, ?_⟩
        · exact ⟨(fun q => by cases q), (fun q => by cases q), (fun q => by cases q), (fun q => by cases q), (fun q => by cases q), (fun q => by cases q), (fun q => by cases q), (fun q => by cases q), (fun q => by cases q), (fun q => by cases q)⟩
        · exact ⟨hYS, hBS.drew, kS, fun _ => hLS, (fun q => by cases q), (fun q => by cases q)⟩
      case step =>
        intro D a w i hi hI hD hcl hn
        obtain ⟨u, rfl, hT, hW⟩ := hI
        have hi' : i < 13 := hi
        clear hi
        rcases (show i = 0 ∨ i = 1 ∨ i = 2 ∨ i = 3 ∨ i = 4 ∨ i = 5 ∨ i = 6 ∨ i = 7 ∨ i = 8 ∨ i = 9 ∨ i = 10 ∨ i = 11 ∨ i = 12 from by omega) with rfl | rfl | rfl | rfl | rfl | rfl | rfl | rfl | rfl | rfl | rfl | rfl | rfl
        · refine wpOp_plain rfl rfl ?_
          go_simp
          exact ⟨upd u 26 (.pointer (some ⟨w0.heap.size, 0, none⟩)), rfl, ⟨fun _ => rfl, fun h => hT.s1 h, fun h => hT.s2 h, fun h => hT.s3 h, fun h => hT.s4 h, fun h => hT.s5 h, fun h => hT.s6 h, fun h => hT.s7 h, fun h => hT.s10 h, fun h => hT.s11 h⟩, ⟨hW.blk, hW.bel, hW.kS, hW.l0, hW.l1, hW.a8⟩⟩
        · refine wpOp_plain rfl rfl ?_
          go_simp
          exact ⟨upd u 27 (.pointer (some ⟨w0.heap.size, 0, none⟩)), rfl, ⟨fun h => hT.s0 h, fun _ => rfl, fun h => hT.s2 h, fun h => hT.s3 h, fun h => hT.s4 h, fun h => hT.s5 h, fun h => hT.s6 h, fun h => hT.s7 h, fun h => hT.s10 h, fun h => hT.s11 h⟩, ⟨hW.blk, hW.bel, hW.kS, hW.l0, hW.l1, hW.a8⟩⟩
        · have d1 : D 1 = true := hn 1 (needs_b (by kernel_rfl))
          have e27 := hT.s1 d1
          refine wpOp_plain rfl rfl ?_
          go_simp
          exact ⟨upd u 28 (.pointer (some ⟨w0.heap.size, 0, none⟩)), by first | rfl | simp [upd, e27], ⟨fun h => hT.s0 h, fun h => hT.s1 h, fun _ => rfl, fun h => hT.s3 h, fun h => hT.s4 h, fun h => hT.s5 h, fun h => hT.s6 h, fun h => hT.s7 h, fun h => hT.s10 h, fun h => hT.s11 h⟩, ⟨hW.blk, hW.bel, hW.kS, hW.l0, hW.l1, hW.a8⟩⟩
        · have d2 : D 2 = true := hn 2 (needs_b (by kernel_rfl))
          have e28 := hT.s2 d2
          refine wpOp_plain rfl rfl ?_
          go_simp
          exact ⟨upd u 29 (.pointer (some ⟨w0.heap.size, 0, none⟩)), by first | rfl | simp [upd, e28], ⟨fun h => hT.s0 h, fun h => hT.s1 h, fun h => hT.s2 h, fun _ => rfl, fun h => hT.s4 h, fun h => hT.s5 h, fun h => hT.s6 h, fun h => hT.s7 h, fun h => hT.s10 h, fun h => hT.s11 h⟩, ⟨hW.blk, hW.bel, hW.kS, hW.l0, hW.l1, hW.a8⟩⟩
        · have d3 : D 3 = true := hn 3 (needs_b (by kernel_rfl))
          have e29 := hT.s3 d3
          have n1 : D 12 = false := by
            cases q : D 12 with
            | false => rfl
            | true => have := hcl 9 4 (hcl 12 9 q (needs_b (by kernel_rfl))) (needs_b (by kernel_rfl)); rw [hD] at this; cases this
          have c0 : w.cell? ⟨w0.heap.size, 0, none⟩ = some vL := (hW.blk.cell 0).trans (by simp [n1])
          refine wpOp_plain rfl rfl ?_
          go_simp
          exact ⟨upd u 30 (vL), by first | rfl | simp [upd, e29], ⟨fun h => hT.s0 h, fun h => hT.s1 h, fun h => hT.s2 h, fun h => hT.s3 h, fun _ => rfl, fun h => hT.s5 h, fun h => hT.s6 h, fun h => hT.s7 h, fun h => hT.s10 h, fun h => hT.s11 h⟩, ⟨hW.blk, hW.bel, hW.kS, hW.l0, hW.l1, hW.a8⟩⟩
        · have hrgS : w.rangeAt wr.heap.size 0 (p.map (Value.int .u8)) := fun m u hm => by rw [Nat.zero_add, hW.kS.cell, List.getElem?_toArray]; exact hm
          refine wpOp_plain rfl rfl ?_
          refine wp_load_mid _ _ rfl wr.heap.size 0 rfl (p.map (Value.int .u8)) _ hrgS Try.underlying79 rfl (size64L HP.out) ?_
          exact ⟨upd u 31 (.agg (p.map (Value.int .u8)).toArray), rfl, ⟨fun h => hT.s0 h, fun h => hT.s1 h, fun h => hT.s2 h, fun h => hT.s3 h, fun h => hT.s4 h, fun _ => rfl, fun h => hT.s6 h, fun h => hT.s7 h, fun h => hT.s10 h, fun h => hT.s11 h⟩, ⟨hW.blk, hW.bel, hW.kS, hW.l0, hW.l1, hW.a8⟩⟩
        · have hrgS : w.rangeAt wr.heap.size 0 (p.map (Value.int .u8)) := fun m u hm => by rw [Nat.zero_add, hW.kS.cell, List.getElem?_toArray]; exact hm
          refine wpOp_plain rfl rfl ?_
          refine wp_load_mid _ _ rfl wr.heap.size 0 rfl (p.map (Value.int .u8)) _ hrgS Try.underlying79 rfl (size64L HP.out) ?_
          exact ⟨upd u 32 (.agg (p.map (Value.int .u8)).toArray), rfl, ⟨fun h => hT.s0 h, fun h => hT.s1 h, fun h => hT.s2 h, fun h => hT.s3 h, fun h => hT.s4 h, fun h => hT.s5 h, fun _ => rfl, fun h => hT.s7 h, fun h => hT.s10 h, fun h => hT.s11 h⟩, ⟨hW.blk, hW.bel, hW.kS, hW.l0, hW.l1, hW.a8⟩⟩
        · have d5 : D 5 = true := hn 5 (needs_b (by kernel_rfl))
          have d6 : D 6 = true := hn 6 (needs_b (by kernel_rfl))
          have e31 := hT.s5 d5
          have e32 := hT.s6 d6
          have hbu : Try.prog.built 81 ((#[(0, .tmp 31), (1, .tmp 32)] : Array (Nat × Operand)).map fun (i, x) => (i, (dzAct w0.heap.size wr.heap.size p (.slice (some ⟨b, off, none⟩) pss.length vc) undef u2 u3 undef (.slice (some ⟨tb, to_, none⟩) 64 tc) (.slice (some ⟨b, off, none⟩) pss.length vc) (.int .i64 pss.length) (.bool true) (.bool false) (.agg #[.slice none 0 0, .bool false, .bool false, .int .i64 0, .int .i64 0]) (.pointer (some ⟨w0.heap.size, 0, none⟩)) (.slice (some ⟨b, off, none⟩) pss.length vc) (.int .i64 pss.length) (.int .i64 k) (.bool true) (.pointer (some ⟨b, off + k, none⟩)) (.slice (some ⟨tb, to_, none⟩) 64 tc) (.slice (some ⟨tb, to_, none⟩) 64 tc) (.int .i64 64) (.bool false) (.slice (some ⟨tb, to_, none⟩) 64 tc) (.pointer (some ⟨tb, to_, none⟩)) u38 undef u).eval x)).toList = some (secArr ⟨p, p, false⟩) := by
            rw [List.map_toArray]
            show Try.prog.built _ [(0, u 31), (1, u 32)] = _
            rw [e31, e32]
            exact built_sec p HP.out
          refine wpOp_plain rfl rfl ?_
          refine wp_build _ _ rfl (by rw [hbu]; rfl) ?_
          rw [hbu]
          exact ⟨upd u 33 (.agg (secArr ⟨p, p, false⟩)), rfl, ⟨fun h => hT.s0 h, fun h => hT.s1 h, fun h => hT.s2 h, fun h => hT.s3 h, fun h => hT.s4 h, fun h => hT.s5 h, fun h => hT.s6 h, fun _ => rfl, fun h => hT.s10 h, fun h => hT.s11 h⟩, ⟨hW.blk, hW.bel, hW.kS, hW.l0, hW.l1, hW.a8⟩⟩
        · have d7 : D 7 = true := hn 7 (needs_b (by kernel_rfl))
          have e33 := hT.s7 d7
          obtain ⟨i0, hi0, hz0, hz1, hz2⟩ := info_parts infoSec
          have hfl : Instr.fill (fun i => some (i * i0.size, i0.size)) ((Array.range (1 * i0.size)).map ((Value.agg zeroSC).cells[· % (Value.agg zeroSC).cells.size]!)) ((#[(0, .tmp 33)] : Array (Nat × Operand)).map fun (i, x) => (i, (dzAct w0.heap.size wr.heap.size p (.slice (some ⟨b, off, none⟩) pss.length vc) undef u2 u3 undef (.slice (some ⟨tb, to_, none⟩) 64 tc) (.slice (some ⟨b, off, none⟩) pss.length vc) (.int .i64 pss.length) (.bool true) (.bool false) (.agg #[.slice none 0 0, .bool false, .bool false, .int .i64 0, .int .i64 0]) (.pointer (some ⟨w0.heap.size, 0, none⟩)) (.slice (some ⟨b, off, none⟩) pss.length vc) (.int .i64 pss.length) (.int .i64 k) (.bool true) (.pointer (some ⟨b, off + k, none⟩)) (.slice (some ⟨tb, to_, none⟩) 64 tc) (.slice (some ⟨tb, to_, none⟩) 64 tc) (.int .i64 64) (.bool false) (.slice (some ⟨tb, to_, none⟩) 64 tc) (.pointer (some ⟨tb, to_, none⟩)) u38 undef u).eval x)).toList = some (secArr ⟨p, p, false⟩) := by
            rw [List.map_toArray (l := [(0, Operand.tmp 33)])]
            show Instr.fill _ _ [(0, u 33)] = _
            rw [e33]
            exact fill_row ⟨p, p, false⟩ ⟨HP.out, HP.out⟩ i0.size hz1
          have hb2 : Below w.heap.size w (w.alloc (.cells (secArr ⟨p, p, false⟩) 81)) := (Below.refl _ _).alloc (Nat.le_refl _) _
          have kb := Blk.new w 81 (secArr ⟨p, p, false⟩)
          refine wpOp_plain rfl rfl ?_
          refine wp_buildSlice 45 81 1 _ rfl (secArr ⟨p, p, false⟩) i0 (.agg zeroSC) Try.underlying45 hi0 hz0 (by rw [hz1]; omega) (by rw [hz1]; omega) hfl ?_
          exact ⟨upd u 34 (.slice (some ⟨w.heap.size, 0, none⟩) 1 1), rfl, ⟨fun h => hT.s0 h, fun h => hT.s1 h, fun h => hT.s2 h, fun h => hT.s3 h, fun h => hT.s4 h, fun h => hT.s5 h, fun h => hT.s6 h, fun h => hT.s7 h, fun h => hT.s10 h, fun h => hT.s11 h⟩, ⟨hW.blk.belowS hb2, below_trans2 hW.bel hb2, hW.kS.belowS hb2, fun q => (hW.l0 q).below hb2, fun q => (hW.l1 q).below hb2, fun _ _ => ⟨w.heap.size, rfl, kb⟩⟩⟩
        · have d4 : D 4 = true := hn 4 (needs_b (by kernel_rfl))
          have d8 : D 8 = true := hn 8 (needs_b (by kernel_rfl))
          have e30 := hT.s4 d4
          obtain ⟨b8, e34, kb⟩ := hW.a8 d8 hD
          have hOL := hW.l0 hD
          have n12 : D 12 = false := by
            cases q : D 12 with
            | false => rfl
            | true => have := hcl 12 9 q (needs_b (by kernel_rfl)); rw [hD] at this; cases this
          refine wpOp_step rfl rfl (step_append_sec rfl (.tmp 30) (.tmp 34) rfl w0.heap.size vL X e30 hOL b8 e34 ⟨p, p, false⟩ ⟨HP.out, HP.out⟩ (fun j u hj => by rw [kb.cell, secArr, List.getElem?_toArray]; exact hj) (by rw [HX.out]; omega) hW.bel.size ?_)
          intro v2 w2 hx hg2
          have ho := Only.of_grownO hg2
          have typ : ∀ g ∈ vL.ownBlock.toList, ∃ cur, Blk w g 81 cur := fun g hg => owns_blk hOL (by simpa using hg)
          have hyn : w0.heap.size ∉ vL.ownBlock.toList := fun hm => by
            obtain ⟨cur2, k2⟩ := typ _ hm
            exact Blk.ne_ hW.blk k2 (by decide) rfl
          have hsn : wr.heap.size ∉ vL.ownBlock.toList := fun hm => by
            obtain ⟨cur2, k2⟩ := typ _ hm
            exact Blk.ne_ hW.kS k2 (by decide) rfl
          have hb2 : Below w0.heap.size w w2 := (Below.refl _ _).grown hg2 hW.bel.size (fun k hk => (World.ownsRow.lt hOL k hk).1)
          exact ⟨upd u 35 v2, rfl, ⟨fun h => hT.s0 h, fun h => hT.s1 h, fun h => hT.s2 h, fun h => hT.s3 h, fun h => hT.s4 h, fun h => hT.s5 h, fun h => hT.s6 h, fun h => hT.s7 h, fun h => hT.s10 h, fun h => hT.s11 h⟩, ⟨by have h := ho.blk hW.blk hyn; rw [n12] at h; show Blk _ _ _ #[cond (D 12) v2 vL, _, _, _, _]; rw [n12]; exact h, hW.bel.trans hb2, ho.blk hW.kS hsn, fun q => (by cases q), fun _ => hx, fun _ q => (by cases q)⟩⟩
        · have d0 : D 0 = true := hn 0 (needs_b (by kernel_rfl))
          have e26 := hT.s0 d0
          refine wpOp_plain rfl rfl ?_
          go_simp
          exact ⟨upd u 36 (.pointer (some ⟨w0.heap.size, 0, none⟩)), by first | rfl | simp [upd, e26], ⟨fun h => hT.s0 h, fun h => hT.s1 h, fun h => hT.s2 h, fun h => hT.s3 h, fun h => hT.s4 h, fun h => hT.s5 h, fun h => hT.s6 h, fun h => hT.s7 h, fun _ => rfl, fun h => hT.s11 h⟩, ⟨hW.blk, hW.bel, hW.kS, hW.l0, hW.l1, hW.a8⟩⟩
        · have d10 : D 10 = true := hn 10 (needs_b (by kernel_rfl))
          have e36 := hT.s10 d10
          refine wpOp_plain rfl rfl ?_
          go_simp
          exact ⟨upd u 37 (.pointer (some ⟨w0.heap.size, 0, none⟩)), by first | rfl | simp [upd, e36], ⟨fun h => hT.s0 h, fun h => hT.s1 h, fun h => hT.s2 h, fun h => hT.s3 h, fun h => hT.s4 h, fun h => hT.s5 h, fun h => hT.s6 h, fun h => hT.s7 h, fun h => hT.s10 h, fun _ => rfl⟩, ⟨hW.blk, hW.bel, hW.kS, hW.l0, hW.l1, hW.a8⟩⟩
        · have d9 : D 9 = true := hn 9 (needs_b (by kernel_rfl))
          have d11 : D 11 = true := hn 11 (needs_b (by kernel_rfl))
          have e37 := hT.s11 d11
          have hx := hW.l1 d9
          obtain ⟨g3, c3, e35⟩ : ∃ a c, u 35 = Value.slice a (X ++ [(⟨p, p, false⟩ : Sec)]).length c := by
            rcases World.ownsRow.form hx (by simp) with ⟨g3, c3, e, _⟩
            exact ⟨_, _, e⟩
          have c0 : w.cell? ⟨w0.heap.size, 0, none⟩ = some vL := (hW.blk.cell 0).trans (by simp [hD])
          have f0 := hW.blk.frozen 0
          have ho : Only [w0.heap.size] w (w.setCell ⟨w0.heap.size, 0, none⟩ (.slice g3 (X ++ [(⟨p, p, false⟩ : Sec)]).length c3)) := Only.setCell _ _ (by simp) _
          have hbk := hW.blk.set_ 0 (.slice g3 (X ++ [(⟨p, p, false⟩ : Sec)]).length c3)
          have hsn : wr.heap.size ∉ [w0.heap.size] := fun hm => Blk.ne_ hW.kS hW.blk (by decide) (by simpa using hm)
          have hx2 : SOwn (w.setCell ⟨w0.heap.size, 0, none⟩ (.slice g3 (X ++ [(⟨p, p, false⟩ : Sec)]).length c3)) w0.heap.size (u 35) (X ++ [(⟨p, p, false⟩ : Sec)]) := ho.owns hx fun g hg hm => by
            obtain ⟨cur, k⟩ := owns_blk hx hg
            obtain rfl : g = w0.heap.size := by simpa using hm
            exact Blk.ne_ k hW.blk (by decide) rfl
          refine wpOp_plain rfl rfl ?_
          generalize (X ++ [(⟨p, p, false⟩ : Sec)]).length = lenX at *
          go_simp
          exact ⟨u, by first | rfl | simp [e35, e37], ⟨fun h => hT.s0 h, fun h => hT.s1 h, fun h => hT.s2 h, fun h => hT.s3 h, fun h => hT.s4 h, fun h => hT.s5 h, fun h => hT.s6 h, fun h => hT.s7 h, fun h => hT.s10 h, fun h => hT.s11 h⟩, ⟨by show Blk _ _ _ #[u 35, .bool false, .bool false, .int .i64 0, .int .i64 0]; rw [e35]; exact hbk, Only.belowOf hW.bel ho hW.bel.size (by simp), ho.blk hW.kS hsn, fun q => (by rw [show D 9 = false from q] at d9; cases d9), fun _ => hx2, fun _ q => (by rw [show D 9 = false from q] at d9; cases d9)⟩⟩
      case fin =>
        intro D a w hI hall
        obtain ⟨u, rfl, hT, hW⟩ := hI
        have hbk := hW.blk
        rw [hall 12 (by decide)] at hbk
        have hl1 := hW.l1 (hall 9 (by decide))
        have ht : X ++ [(⟨p, p, false⟩ : Sec)] = (pss.take (k + 1)).map secOf := HT.out
        rw [ht] at hl1
        have HF := Lib.hid (show Blk w w0.heap.size 47 #[u 35, .bool false, .bool false, .int .i64 0, .int .i64 0] ∧ SOwn w w0.heap.size (u 35) ((pss.take (k + 1)).map secOf) ∧ Below w0.heap.size w0 w from ⟨hbk, hl1, hW.bel⟩)
        clear hbk hl1 hW hT ht hall
        go_wp2
        exact ⟨⟨k + 1, u 35, hlt, by go_num, HF.out⟩, by simp [intOf]; omega⟩
    · obtain rfl : k = pss.length := by omega
      have hkI : ¬ (pss.length : Int) < (pss.length : Int) := by omega
      rw [List.take_length] at hL
      have e1 : (ofD pss).l = pss.map secOf := rfl
      have e2 : (pss.map secOf).length = pss.length := by simp
      have hll : ∀ s ∈ pss.map secOf, s.now.length = 64 ∧ s.kept.length = 64 := fun s hs => by
        obtain ⟨p, hp, rfl⟩ := List.mem_map.1 hs
        exact ⟨(HH.out p hp).1, (HH.out p hp).1⟩
      obtain ⟨gb, cb, rfl, hgb, hcb, hsr⟩ : ∃ gb cb, vL = Value.slice (some ⟨gb, 0, none⟩) pss.length cb ∧ w0.heap.size ≤ gb ∧ (pss.length ≤ cb ∧ cb ≤ 9223372036854775807) ∧ SRow wr gb (pss.map secOf) := by
        rcases hL.2 with ⟨_, e⟩ | ⟨g, c, cur, e, hg, hh, hnc, hcm, hcs, ht⟩
        · rw [e2] at e; omega
        · rw [e2] at e hnc
          refine ⟨g, c, e, hg, ⟨hnc, by unfold maxLen at hcm; exact hcm⟩, SRow.ofCells (show Blk wr g _ cur from hh) hll fun j u hj => ?_⟩
          rw [← ht, List.getElem?_take] at hj
          split at hj
          · rw [← Array.getElem?_toList]; exact hj
          · cases hj
      have HF := Lib.hid (show Dev wr w0.heap.size gb (ofD pss) from ⟨⟨cb, by rw [e1, e2]; exact hcb.1, hcb.2, by rw [e1, e2]; exact hY⟩, hsr, by rw [e1, e2]; exact ⟨h1, h2⟩, fun s hs => by
        obtain ⟨p, hp, rfl⟩ := List.mem_map.1 hs
        have hh := HH.out p hp
        exact ⟨hh.1, hh.1, hh.2, hh.2, fun _ => rfl⟩⟩)
      have HB := Lib.hid hb
      have HG := Lib.hid hgb
      clear hY hL hb hsr hll hgb
      go_wp2
      go_ret2
      exact ⟨_, rfl, Nat.le_refl _, gb, HG.out, HF.out, HB.out⟩

end Go.Proofs.Yteaimjfpmacgeaa
