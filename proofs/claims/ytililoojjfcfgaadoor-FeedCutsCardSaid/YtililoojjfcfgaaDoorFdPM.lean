/- feed.Prove: what shows a page, epoch by epoch. Conditions: ten batches of ten changes at most. -/
import Derived.Test.YtililoojjfcfgaaDoorFdFM
import Derived.Test.YtililoojjfcfgaaDoorFcG
import Derived.Test.YtililoojjfcfgaaDoorFcI
import Derived.Test.YtililoojjfcfgaaDoorFcJ
import Derived.Deep.Cut
namespace Go.Proofs.YtililoojjfcfgaaDoor
open Go.RowKit Go.Shelf
set_option linter.unusedVariables false
attribute [local go_sem] Oper.semAt_some

def cntI (ll : List (List Chg)) : List Int := ll.map fun l => (l.length : Int)
/-- What shows one cut. -/
def showC (size : Int) (ll : List (List Chg)) (c : CutP) : List (List Int) := rngI size (leavesI size (ll.getD c.at_ [])) c.lo c.hi
def showsI (size : Int) (ll : List (List Chg)) (cs : List CutP) : List (List (List Int)) := cs.map (showC size ll)

theorem run_make_ints (n : Nat) (hn : n ≤ 1000000) (w : World) :
    (Instr.makeSlice 35 (.int .i64 n) (.int .i64 n)).run Tryd.prog w = .ok (.slice (some ⟨w.heap.size, 0, none⟩) n n) (w.alloc (.cells (List.replicate n (Value.int .i64 0)).toArray 3)) := by
  have h := run_make_row' (P := Tryd.prog) 35 3 (.int .i64 0) 8 Tryd.underlying35 (by kernel_rfl) rfl .i64 .i64 n (by omega) (by omega) w
  rw [h]
  have e : madeCells #[.int .i64 0] n = (List.replicate n (Value.int .i64 0)).toArray := by
    apply Array.ext'
    rw [toList_madeCells_one]
  rw [e]
theorem cnt_take (ll : List (List Chg)) {k : Nat} {l : List Chg} (hk : ll[k]? = some l) : cntI (ll.take (k + 1)) = cntI (ll.take k) ++ [(l.length : Int)] := by
  have hkl : k < ll.length := (List.getElem?_eq_some_iff.1 hk).1
  rw [List.getElem?_eq_getElem hkl] at hk
  cases hk
  unfold cntI
  rw [List.take_succ_eq_append_getElem hkl, List.map_append]; rfl

/-- The round's slots in its region. -/
abbrev fpAct (sz bt B Bx k : Nat) (g u : Nat → Value) : Act := { tmps := #[g 0, g 1, g 2, g 3, .pointer (some ⟨sz, 0, none⟩), .pointer (some ⟨bt, 0, none⟩), g 6, g 7, g 8, g 9, g 10, g 11, .pointer (some ⟨B, 0, none⟩), .int .i64 k, .pointer (some ⟨Bx, 0, none⟩), g 15, g 16, g 17, g 18, g 19, g 20, g 21, g 22, g 23, g 24, g 25, g 26, g 27, g 28, g 29, g 30, g 31, g 32, g 33, g 34, g 35, g 36, u 37, u 38, u 39, u 40, u 41, u 42, u 43, u 44, u 45, u 46, u 47, u 48, u 49, u 50, u 51, g 52], defers := [] }
structure FpT (Bx k bb bo bn bc : Nat) (size lo hi : Int) (ua : Option Addr) (un uc : Nat) (vO : Value) (D : Nat → Bool) (u : Nat → Value) : Prop where
  s0 : D 0 = true → u 37 = vO
  s1 : D 1 = true → u 38 = .int .i64 size
  s2 : D 2 = true → u 39 = .int .i64 size
  s3 : D 3 = true → u 40 = .slice (some ⟨bb, bo, none⟩) bn bc
  s4 : D 4 = true → u 41 = .int .i64 k
  s5 : D 5 = true → u 42 = .pointer (some ⟨bb, bo + k, none⟩)
  s6 : D 6 = true → u 43 = .slice ua un uc
  s8 : D 8 = true → u 45 = .pointer (some ⟨Bx, 0, none⟩)
  s9 : D 9 = true → u 46 = .int .i64 lo
  s10 : D 10 = true → u 47 = .pointer (some ⟨Bx, 1, none⟩)
  s11 : D 11 = true → u 48 = .int .i64 hi
structure FpW (B base : Nat) (vO : Value) (L : List (List (List Int))) (lvs R : List (List Int)) (W : World) (D : Nat → Bool) (u : Nat → Value) (w : World) : Prop where
  bel : D 14 = false → Below W.heap.size W w
  tur : Turns (B :: vO.ownBlock.toList) W w
  kee : KeepsOthers W w
  bx : Boxed w B 38 (cond (D 15) (u 51) vO)
  ol2 : D 14 = true → OLv w base (u 51) (L ++ [R])
  lv : D 7 = true → D 14 = false → Sls w (u 44) lvs
  rg : D 12 = true → D 14 = false → OSls w 0 (u 49) R
  lit : D 13 = true → D 14 = false → ∃ b, u 50 = .slice (some ⟨b, 0, none⟩) 1 1 ∧ Blk w b 23 #[u 49]
theorem FpW.below {B base : Nat} {vO : Value} {L : List (List (List Int))} {lvs R : List (List Int)} {W : World} {D : Nat → Bool} {u : Nat → Value} {w w' : World} (h : FpW B base vO L lvs R W D u w) (hb : Below w.heap.size w w') (hd : D 14 = false) : FpW B base vO L lvs R W D u w' :=
  ⟨fun q => below_trans2 (h.bel q) hb, h.tur.trans (Turns.of_below _ hb), h.kee.trans (KeepsOthers.below hb), (hb.block B h.bx.lt).trans h.bx, fun q => (by rw [hd] at q; cases q), fun q r => (h.lv q r).below hb (Nat.le_refl _), fun q r => (h.rg q r).below hb,
    fun q r => (by obtain ⟨b, e, k⟩ := h.lit q r; exact ⟨b, e, k.belowS hb⟩)⟩
def fpInv (sz bt B Bx k bb bo bn bc : Nat) (size lo hi : Int) (ua : Option Addr) (un uc : Nat) (vO : Value) (base : Nat) (L : List (List (List Int))) (lvs R : List (List Int)) (W : World) (g : Nat → Value) (D : Nat → Bool) (a : Act) (w : World) : Prop :=
  ∃ u, a = fpAct sz bt B Bx k g u ∧ FpT Bx k bb bo bn bc size lo hi ua un uc vO D u ∧ FpW B base vO L lvs R W D u w
theorem needs_b {ops : Array Oper} {i j : Nat} (h : (needs ops i).contains j = true) : j ∈ needs ops i := List.contains_iff_mem.1 h
theorem Bds.below2 {w w' : World} {v : Value} {l : List Chg} (h : Bds w v l) (hb : Below w.heap.size w w') : Bds w' v l := h.below hb (Nat.le_refl _)

set_option maxRecDepth 100000 in
set_option maxHeartbeats 4000000 in
theorem prove_any (size : Int) (v : Value) (ll : List (List Chg)) (index limit : Int) (w : World) (hlen : ll.length ≤ 10) (h10 : ∀ l ∈ ll, l.length ≤ 10) (hB : ∀ l ∈ ll, ∀ p ∈ l, IsB p.1 ∧ IsB p.2)
    (hi64 : -9223372036854775808 ≤ index ∧ index ≤ 9223372036854775807) (hl64 : -9223372036854775808 ≤ limit ∧ limit ≤ 9223372036854775807) (hs : Bdss w v ll) (ht : Tabs w) :
    Calls Tryd.prog 20 #[.int .i64 size, v, .int .i64 index, .int .i64 limit] w fun e w' => ∃ x, e = .returned x ∧ OLv w' w.heap.size x (showsI size ll (cutsI (cntI ll) index limit)) ∧ Below w.heap.size w w' := by
  refine (callsIn_wide (n := 4)).1 ?_
  obtain ⟨va, vc, rfl, hvc, hvm⟩ := hs.shape
  have hmk := fun w1 => run_make_ints ll.length (by omega) w1
  have HS := Lib.hid (fun w1 (hb : Below w.heap.size w w1) => hs.below hb (Nat.le_refl _))
  have HT := Lib.hid (fun w1 (hb : Below w.heap.size w w1) => ht.below hb)
  have H10 := Lib.hid h10
  have HBB := Lib.hid hB
  have hC0 : Below w.heap.size w ((w.alloc (.cells #[.int .i64 size] 3)).alloc (.cells #[.slice va ll.length vc] 36)) := ((Below.refl _ w).alloc (Nat.le_refl _) _).alloc (by simp) _
  have b0 : Boxed ((w.alloc (.cells #[.int .i64 size] 3)).alloc (.cells #[.slice va ll.length vc] 36)) w.heap.size 3 (.int .i64 size) := (Boxed.new w _ _).alloc _
  have b1 : Boxed ((w.alloc (.cells #[.int .i64 size] 3)).alloc (.cells #[.slice va ll.length vc] 36)) (w.heap.size + 1) 36 (.slice va ll.length vc) := by
    have := Boxed.new (w.alloc (.cells #[.int .i64 size] 3)) 36 (.slice va ll.length vc)
    simpa using this
  have hsz2 : ((w.alloc (.cells #[.int .i64 size] 3)).alloc (.cells #[.slice va ll.length vc] 36)).heap.size = w.heap.size + 1 + 1 := by simp
  have hd1 := b1.cell
  refine callsIn_of_wp_marks Tryd.func20 rfl trivial ?_ rfl
  simp only [Tryd.ntmps20, List.size_toArray, List.length_cons, List.length_nil, Nat.reduceAdd, Nat.reduceSub, Array.replicate_succ, Array.replicate_zero, List.push_toArray, List.append_toArray, List.nil_append, List.cons_append]
  clear hs ht h10 hB
  have b0' := b0.alloc (.cells (Array.replicate ll.length (Value.int .i64 0)) 3)
  have b1' := b1.alloc (.cells (Array.replicate ll.length (Value.int .i64 0)) 3)
  have b2' : Blk (((w.alloc (.cells #[.int .i64 size] 3)).alloc (.cells #[.slice va ll.length vc] 36)).alloc (.cells (Array.replicate ll.length (Value.int .i64 0)) 3)) (w.heap.size + 1 + 1) 3 (Array.replicate ll.length (Value.int .i64 0)) := by
    have := Blk.new ((w.alloc (.cells #[.int .i64 size] 3)).alloc (.cells #[.slice va ll.length vc] 36)) 3 (Array.replicate ll.length (Value.int .i64 0))
    rw [hsz2] at this
    exact this
  have hC1 : Below w.heap.size w (((w.alloc (.cells #[.int .i64 size] 3)).alloc (.cells #[.slice va ll.length vc] 36)).alloc (.cells (Array.replicate ll.length (Value.int .i64 0)) 3)) := hC0.alloc (by simp; omega) _
  have hsz3 : (((w.alloc (.cells #[.int .i64 size] 3)).alloc (.cells #[.slice va ll.length vc] 36)).alloc (.cells (Array.replicate ll.length (Value.int .i64 0)) 3)).heap.size = w.heap.size + 1 + 1 + 1 := by simp
  have hd1' := b1'.cell
  have B0 := Lib.hid b0'
  have B1 := Lib.hid b1'
  have B2 := Lib.hid b2'
  have C1 := Lib.hid hC1
  have S3 := Lib.hid hsz3
  clear b0 b1 b0' b1' b2' hC0 hC1 hsz2 hsz3
  gi_wp2
  gi_loopw [20] (fun i wr => ∃ k : Nat, k ≤ ll.length ∧ i = .int .i64 k ∧ Blk wr (w.heap.size + 1 + 1) 3 ((cntI (ll.take k)).map (Value.int .i64) ++ List.replicate (ll.length - k) (Value.int .i64 0)).toArray ∧ Boxed wr w.heap.size 3 (.int .i64 size) ∧ Boxed wr (w.heap.size + 1) 36 (.slice va ll.length vc) ∧ wr.heap.size = w.heap.size + 1 + 1 + 1 ∧ Below w.heap.size w wr) (fun i _ => ll.length - (intOf i).toNat)
  case atStart =>
    refine ⟨0, by omega, rfl, ?_, B0.out, B1.out, S3.out, C1.out⟩
    have h := B2.out
    rw [← List.toArray_replicate] at h
    simpa [cntI] using h
  case round =>
    clear B0 B1 B2 C1 S3 hd1 hd1'
    obtain ⟨k, hk, rfl, kC, kS, kB, hsz, hbr⟩ := hrel
    by_cases hlt : k < ll.length
    · have hkI : (k : Int) < (ll.length : Int) := by omega
      obtain ⟨l, hl⟩ : ∃ l, ll[k]? = some l := ⟨ll[k], List.getElem?_eq_getElem hlt⟩
      obtain ⟨b, off, rfl, hbb, u, cu, hu⟩ := (HS.out wr hbr).at hl
      obtain ⟨ua, uc, rfl, huc, hum⟩ := hu.shape
      have hcl : ((cntI (ll.take k)).map (Value.int .i64)).length = k := by simp [cntI]; omega
      have q1 : wr.cell? ⟨w.heap.size + 1 + 1, k, none⟩ = some (.int .i64 0) := (kC.cell k).trans (get_next _ k ll.length _ hcl hlt)
      have q2 := kC.frozen k
      have kC2 := kC.set_ k (.int .i64 l.length)
      rw [set_next _ k ll.length _ _ hcl hlt] at kC2
      have e1 : (cntI (ll.take k)).map (Value.int .i64) ++ [Value.int .i64 l.length] = (cntI (ll.take (k + 1))).map (Value.int .i64) := by rw [cnt_take ll hl, List.map_append]; rfl
      rw [e1] at kC2
      have kS2 : Boxed (wr.setCell ⟨w.heap.size + 1 + 1, k, none⟩ (.int .i64 l.length)) w.heap.size 3 (.int .i64 size) := (Below.heap_setCell _ _ _ _ (by show _ ≠ w.heap.size + 1 + 1; omega)).trans kS
      have kB2 : Boxed (wr.setCell ⟨w.heap.size + 1 + 1, k, none⟩ (.int .i64 l.length)) (w.heap.size + 1) 36 (.slice (some ⟨b, off, none⟩) ll.length vc) := (Below.heap_setCell _ _ _ _ (by show _ ≠ w.heap.size + 1 + 1; omega)).trans kB
      have hbr2 := hbr.setCell (p := ⟨w.heap.size + 1 + 1, k, none⟩) (by simp; omega) (.int .i64 l.length)
      have hsz2 : (wr.setCell ⟨w.heap.size + 1 + 1, k, none⟩ (.int .i64 l.length)).heap.size = w.heap.size + 1 + 1 + 1 := by simp [World.setCell]; exact hsz
      have HF := Lib.hid (And.intro kC2 (And.intro kS2 (And.intro kB2 (And.intro hsz2 hbr2))))
      have HLT := Lib.hid hlt
      clear kC kS kB hbr hu hl hcl e1 kC2 kS2 kB2 hbr2 hsz2
      gi_wp2
      exact ⟨⟨k + 1, HLT.out, by simp, HF.out⟩, by simp [intOf]; have := HLT.out; omega⟩
    · obtain rfl : k = ll.length := by omega
      rw [List.take_length, Nat.sub_self, List.replicate_zero, List.append_nil] at kC
      have hkI : ¬ (ll.length : Int) < (ll.length : Int) := by omega
      have KC := Lib.hid kC
      have KS := Lib.hid kS
      have KB := Lib.hid kB
      have HB := Lib.hid hbr
      have HZ := Lib.hid hsz
      clear kC kS kB hbr hsz
      gi_wp2_with (refine ⟨trivial, ?_⟩; gi_at_call 62; refine (cuts_in _ _ _ _ _ _ _).mono ?_; rintro e w' ⟨rfl, rfl⟩)
      have ZL := Lib.hid (show (cntI ll).length = ll.length by simp [cntI])
      obtain ⟨W0, hW0⟩ : ∃ W0, ((((wr.alloc (.cells #[.slice none 0 0] 38)).alloc (.cells #[.slice (some ⟨w.heap.size + 1 + 1, 0, none⟩) ll.length ll.length] 35)).alloc (.cells #[.int .i64 index] 3)).alloc (.cells #[.int .i64 limit] 3)) = W0 := ⟨_, rfl⟩
      have c0 : Boxed W0 wr.heap.size 38 (.slice none 0 0) := by rw [← hW0]; exact (((Boxed.new wr _ _).alloc _).alloc _).alloc _
      have c1 : Boxed W0 (wr.heap.size + 1) 35 (.slice (some ⟨w.heap.size + 1 + 1, 0, none⟩) ll.length ll.length) := by
        rw [← hW0]
        have := ((Boxed.new (wr.alloc (.cells #[.slice none 0 0] 38)) 35 (.slice (some ⟨w.heap.size + 1 + 1, 0, none⟩) ll.length ll.length)).alloc (.cells #[.int .i64 index] 3)).alloc (.cells #[.int .i64 limit] 3)
        simpa using this
      have c2 : Boxed W0 (wr.heap.size + 1 + 1) 3 (.int .i64 index) := by
        rw [← hW0]
        have := (Boxed.new ((wr.alloc (.cells #[.slice none 0 0] 38)).alloc (.cells #[.slice (some ⟨w.heap.size + 1 + 1, 0, none⟩) ll.length ll.length] 35)) 3 (.int .i64 index)).alloc (.cells #[.int .i64 limit] 3)
        simpa using this
      have c3 : Boxed W0 (wr.heap.size + 1 + 1 + 1) 3 (.int .i64 limit) := by
        rw [← hW0]
        have := Boxed.new (((wr.alloc (.cells #[.slice none 0 0] 38)).alloc (.cells #[.slice (some ⟨w.heap.size + 1 + 1, 0, none⟩) ll.length ll.length] 35)).alloc (.cells #[.int .i64 index] 3)) 3 (.int .i64 limit)
        simpa using this
      have hR0 : Below wr.heap.size wr W0 := by rw [← hW0]; exact ((((Below.refl _ wr).alloc (Nat.le_refl _) _).alloc (by simp) _).alloc (by simp; omega) _).alloc (by simp; omega) _
      have hsz0 : W0.heap.size = wr.heap.size + 4 := by rw [← hW0]; simp
      have hwz := HZ.out
      have hB0 := below_trans2 HB.out hR0
      have kC0 := KC.out.belowS hR0
      have kS0 : Boxed W0 w.heap.size 3 (.int .i64 size) := (hR0.block _ KS.out.lt).trans KS.out
      have kB0 : Boxed W0 (w.heap.size + 1) 36 (.slice va ll.length vc) := (hR0.block _ KB.out.lt).trans KB.out
      have hsl : Sl W0 (.slice (some ⟨w.heap.size + 1 + 1, 0, none⟩) (cntI ll).length ll.length) ((cntI ll).map (Value.int .i64)) := by
        have : Sl W0 (.slice (some ⟨w.heap.size + 1 + 1, 0, none⟩) ll.length ll.length) ((cntI ll).map (Value.int .i64)) := Sl.ofBlk kC0 ll.length (by rw [List.length_map, ZL.out]) (by rw [List.length_map, ZL.out]; unfold maxLen; omega)
        rw [ZL.out]; exact this
      have hxb : ∀ k ∈ slBlk (.slice (some ⟨w.heap.size + 1 + 1, 0, none⟩) (cntI ll).length ll.length), k = w.heap.size + 1 + 1 := by
        intro k hk
        by_cases h0 : (cntI ll).length = 0
        · simp [slBlk, h0] at hk
        · simp [slBlk, h0] at hk; exact hk
      have hlaw := cutsI_law (cntI ll) index limit
      have hseq := cutsRun 3 (by omega) (some ⟨w.heap.size + 1 + 1, 0, none⟩) ll.length (cntI ll) index limit (wr.heap.size + 1) (wr.heap.size + 1 + 1) (wr.heap.size + 1 + 1 + 1) (by omega) (fun x hx => by obtain ⟨l, hl, rfl⟩ := List.mem_map.1 hx; have := H10.out l hl; omega) hi64 hl64 (fun k hk => by have := hxb k hk; omega) W0 (by rw [ZL.out]; exact c1) c2 c3 hsl
      rw [ZL.out] at hseq hxb
      generalize hall : cutsI (cntI ll) index limit = all at *
      have hOwn : OwnBx (β := List CutP) W0.heap.size [wr.heap.size + 1 + 1, wr.heap.size + 1 + 1 + 1] (fun pre W => (∃ v, Boxed W wr.heap.size 38 v ∧ OLv W W0.heap.size v (showsI size ll pre)) ∧ (∃ n : Int, Boxed W (wr.heap.size + 1 + 1) 3 (.int .i64 n)) ∧ (∃ n : Int, Boxed W (wr.heap.size + 1 + 1 + 1) 3 (.int .i64 n)) ∧ Boxed W w.heap.size 3 (.int .i64 size) ∧ Boxed W (w.heap.size + 1) 36 (.slice va ll.length vc) ∧ Below w.heap.size w W) := by
        rintro pre W W' cs ⟨⟨v, hv, ho⟩, ⟨n1, hn1⟩, ⟨n2, hn2⟩, hs, hb, hbl⟩ ht hcs hnb
        have hpl : ∀ k ∈ cs, PlainB W k := fun k hk => by
          rcases hcs k hk with h | ⟨_, h⟩
          · rcases List.mem_cons.1 h with rfl | h
            · exact .inl ⟨n1, hn1⟩
            · obtain rfl := List.mem_singleton.1 h; exact .inl ⟨n2, hn2⟩
          · exact .inr h
        have far : ∀ (b : Nat) (t : TypeId) (u : Value), Boxed W b t u → b ∉ [wr.heap.size + 1 + 1, wr.heap.size + 1 + 1 + 1] → b ∉ cs := fun b t u hbx hnb hm => by
          rcases hcs b hm with h | ⟨_, o, ho, hc⟩
          · exact hnb h
          · rw [show W.heap[b]? = _ from hbx] at ho; cases ho; cases hc
        refine ⟨⟨v, boxed_turns hv ht (far _ _ _ hv (by simp; omega)), ho.turns ht hpl⟩, hnb _ (by simp) _ _ hn1, hnb _ (by simp) _ _ hn2, boxed_turns hs ht (far _ _ _ hs (by simp; omega)), boxed_turns hb ht (far _ _ _ hb (by simp; omega)), ht.toBelow hbl hbl.size (fun k hk => ?_)⟩
        rcases hcs k hk with h | ⟨h, _⟩
        · simp at h; omega
        · omega
      rw [hW0]
      clear hW0 hsl kC0
      refine wpIn_range_boxes rfl (by omega) (gf := 104) (lb := #[.pointer (some ⟨wr.heap.size + 1, 0, none⟩), .pointer (some ⟨wr.heap.size + 1 + 1, 0, none⟩), .pointer (some ⟨wr.heap.size + 1 + 1 + 1, 0, none⟩)]) rfl trivial (enters_of Tryd.func104 (by kernel_rfl) rfl)
        hseq (fun k hk => by simp at hk; omega) (fun h k => h.trans k) ?kn (fun _ => rfl) _ (fun _ _ _ => False) hOwn (fun _ _ _ _ _ h _ _ _ => h)
        ⟨⟨_, c0, OLv.nil _ _⟩, ⟨_, c2⟩, ⟨_, c3⟩, kS0, kB0, hB0⟩
        (fun x a' W => ∃ Bx, W0.heap.size ≤ Bx ∧ Blk W Bx 43 #[.int .i64 x.lo, .int .i64 x.hi] ∧ a' = { tmps := #[.int .i64 size, .slice va ll.length vc, .int .i64 index, .int .i64 limit, .pointer (some ⟨w.heap.size, 0, none⟩), .pointer (some ⟨w.heap.size + 1, 0, none⟩), undef, undef, .slice none 0 0, .slice (some ⟨w.heap.size + 1 + 1, 0, none⟩) ll.length ll.length, u10, u11, .pointer (some ⟨wr.heap.size, 0, none⟩), .int .i64 x.at_, .pointer (some ⟨Bx, 0, none⟩), .slice va ll.length vc, .int .i64 ll.length, .slice (some ⟨w.heap.size + 1 + 1, 0, none⟩) ll.length ll.length, .slice va ll.length vc, .int .i64 ll.length, .int .i64 ll.length, .bool false, u22, u23, u24, u25, u26, u27, u28, u29, u30, .slice (some ⟨w.heap.size + 1 + 1, 0, none⟩) ll.length ll.length, .int .i64 index, .int .i64 limit, .func (.func 104) #[] #[.pointer (some ⟨wr.heap.size + 1, 0, none⟩), .pointer (some ⟨wr.heap.size + 1 + 1, 0, none⟩), .pointer (some ⟨wr.heap.size + 1 + 1 + 1, 0, none⟩)], .int .i64 x.at_, .agg #[.int .i64 x.lo, .int .i64 x.hi], undef, undef, undef, undef, undef, undef, undef, undef, undef, undef, undef, undef, undef, undef, undef, undef], defers := [] })
        ?ax ?assign ?body ?done ?stop
      case kn =>
        intro W W' cs ht hle hcs
        refine KeepB.of_turns ht fun k hk hm => ?_
        have h1 := hcs k hm
        simp only [List.mem_cons] at hk
        rcases hk with rfl | rfl | rfl | hk
        · omega
        · omega
        · omega
        · have := hxb k hk; omega
      case ax =>
        rintro ⟨x, a'⟩ W W' cs ⟨Bx, hBx, kX, ha⟩ ht hcs _
        refine ⟨Bx, hBx, ht.heap kX (fun hm => ?_), ha⟩
        rcases hcs Bx hm with h | ⟨_, o, ho, hc⟩
        · simp at h; omega
        · rw [show W.heap[Bx]? = _ from kX] at ho; cases ho; cases hc
      case assign =>
        rintro lr pre x W K hi hle hK
        rw [show encC x = #[.int .i64 x.at_, .agg #[.int .i64 x.lo, .int .i64 x.hi]] from rfl]
        have hK2 := hK _ _ ⟨W.heap.size, hle, Blk.new W 43 #[.int .i64 x.lo, .int .i64 x.hi], rfl⟩ (hOwn.alloc _ hi) ((KeepsOthers.alloc _ _).from _) (KeepB.of_turns (Turns.alloc [] _ _) (by simp))
        clear hK hOwn hxb hi hlaw hmk hwz hsz0
        gi_wp2
        exact hK2
      case body =>
        rintro lr pre x a' W ⟨⟨v, hv, ho⟩, hn1, hn2, hs, hb, hbl⟩ ⟨Bx, hBx, kX, rfl⟩ hle hpre
        have hmem : x ∈ all := hpre.subset (by simp)
        obtain ⟨q1, q2, n, hn, q3⟩ := hlaw.1 x hmem
        obtain ⟨l, hl, hnl⟩ : ∃ l, ll[x.at_]? = some l ∧ n = (l.length : Int) := by
          unfold cntI at hn
          rw [List.getElem?_map] at hn
          cases hq : ll[x.at_]? with
          | none => rw [hq] at hn; cases hn
          | some l => rw [hq] at hn; exact ⟨l, rfl, by simpa using hn.symm⟩
        subst hnl
        have hkl : x.at_ < ll.length := (List.getElem?_eq_some_iff.1 hl).1
        have hlm := List.mem_of_getElem? hl
        have hl10 := H10.out l hlm
        have hsnoc : showsI size ll (pre ++ [x]) = showsI size ll pre ++ [rngI size (leavesI size l) x.lo x.hi] := by
          unfold showsI
          rw [List.map_append]
          simp [showC, List.getD_eq_getElem?_getD, hl]
        have hplen : (showsI size ll pre).length + 1 ≤ 5000000000000 := by
          have h1 := hpre.length_le
          have h2 := cutsI_length (cntI ll) index limit
          rw [hall, ZL.out] at h2
          unfold showsI
          rw [List.length_map]
          simp at h1; omega
        obtain ⟨bb, bo, rfl, hbb, u, cu, hu⟩ := (HS.out W hbl).at hl
        obtain ⟨ua, uc, rfl, huc, hum⟩ := hu.shape
        have hlv : ∀ p ∈ leavesI size l, IsB p ∧ p.length ≤ 32 := fun p hp => ⟨leavesI_isB size l p hp, by obtain ⟨q, _, rfl⟩ := List.mem_map.1 hp; exact hashT_len _ _ _⟩
        have hll : (leavesI size l).length = l.length := by simp [leavesI]
        have HLV := Lib.hid (fun w' (hb : Below W.heap.size W w') => leaves_any size (.slice ua l.length uc) l w' (by omega) (HBB.out l hlm) (hu.below hb (Nat.le_refl _)) (HT.out w' (below_trans2 hbl hb)))
        have HRG := Lib.hid (show ∀ w', Below W.heap.size W w' → ∀ y, Sls w' y (leavesI size l) → Calls Tryd.prog 63 #[.int .i64 size, y, .int .i64 x.lo, .int .i64 x.hi] w' fun e w'' => ∃ y, e = .returned y ∧ OSls w'' w'.heap.size y (rngI size (leavesI size l) x.lo x.hi) ∧ Below w'.heap.size w' w'' from fun w' hb y hy => by
          have := range_own size y (leavesI size l) x.lo x.hi w' (by rw [hll]; omega) (fun p hp => (hlv p hp).1) (fun p hp => by have := (hlv p hp).2; omega) hy (HT.out w' (below_trans2 hbl hb))
          rw [if_pos (by rw [hll]; omega)] at this
          exact this)
        have KS := Lib.hid hs
        have KB := Lib.hid hb
        have HEL := Lib.hid (And.intro (show bb < W.heap.size by have := hbb; omega) cu)
        have KX := Lib.hid kX
        have HOL := Lib.hid ho
        have HLN := Lib.hid hplen
        have HBS := Lib.hid hle
        have HSN := Lib.hid hsnoc
        generalize showsI size ll pre = L at *
        generalize rngI size (leavesI size l) x.lo x.hi = R at *
        generalize leavesI size l = lvs at *
        obtain ⟨oa, oc, rfl⟩ := ho.val
        have hbx := hv
        have hfin : ∀ (w' : World), Turns (wr.heap.size :: (Value.slice oa L.length oc).ownBlock.toList) W w' → KeepsOthers W w' → (∃ y, Boxed w' wr.heap.size 38 y ∧ OLv w' W0.heap.size y (L ++ [R])) → ownPostG W0.heap.size (KeepB ((wr.heap.size + 1) :: (wr.heap.size + 1 + 1) :: (wr.heap.size + 1 + 1 + 1) :: slBlk (.slice (some ⟨w.heap.size + 1 + 1, 0, none⟩) ll.length ll.length))) (fun pre W => (∃ v, Boxed W wr.heap.size 38 v ∧ OLv W W0.heap.size v (showsI size ll pre)) ∧ (∃ n : Int, Boxed W (wr.heap.size + 1 + 1) 3 (.int .i64 n)) ∧ (∃ n : Int, Boxed W (wr.heap.size + 1 + 1 + 1) 3 (.int .i64 n)) ∧ Boxed W w.heap.size 3 (.int .i64 size) ∧ Boxed W (w.heap.size + 1) 36 (.slice (some ⟨bb, bo, none⟩) ll.length vc) ∧ Below w.heap.size w W) (fun _ _ _ => False) (pre ++ [x]) W .normal { tmps := #[], defers := [] } w' := by
          intro w' ht hk hx
          have hnew : ∀ q ∈ (wr.heap.size :: (Value.slice oa L.length oc).ownBlock.toList), q = wr.heap.size ∨ W0.heap.size ≤ q := fun q hq => by
            rcases List.mem_cons.1 hq with h | h
            · exact .inl h
            · obtain ⟨vs, hk1, _⟩ := ho
              exact .inr (hk1.1.lt q (by simpa using h)).1
          have hnm : ∀ q, q ≠ wr.heap.size → q < W0.heap.size → q ∉ (wr.heap.size :: (Value.slice oa L.length oc).ownBlock.toList) := fun q h1 h2 hm => by
            rcases hnew q hm with h | h
            · exact h1 h
            · omega
          refine ⟨hk.from _, KeepB.of_turns ht (fun q hq => hnm q ?_ ?_), by rw [hsnoc]; exact hx, ?_, ?_, boxed_turns hs ht (hnm _ (by omega) (by omega)), boxed_turns hb ht (hnm _ (by omega) (by omega)), ht.toBelow hbl hbl.size (fun q hq => ?_)⟩
          · simp only [List.mem_cons] at hq
            rcases hq with rfl | rfl | rfl | hq
            · omega
            · omega
            · omega
            · have := hxb q hq; omega
          · simp only [List.mem_cons] at hq
            rcases hq with rfl | rfl | rfl | hq
            · omega
            · omega
            · omega
            · have := hxb q hq; omega
          · obtain ⟨n, hn⟩ := hn1; exact ⟨n, boxed_turns hn ht (hnm _ (by omega) (by omega))⟩
          · obtain ⟨n, hn⟩ := hn2; exact ⟨n, boxed_turns hn ht (hnm _ (by omega) (by omega))⟩
          · rcases hnew q hq with h | h
            · omega
            · omega
        have HFIN := Lib.hid hfin
        clear hfin hs hb ho hv kX hwz hsz0 hle hxb hall hmem hu cu hlv hll hn1 hn2 hn q3 hOwn hlaw hseq hmk c0 c1 c2 c3 hB0 hR0 kS0 kB0 hsnoc hplen
        repeat apply wpIn_block
        refine wpIn_region_inv2 (fpInv w.heap.size (w.heap.size + 1) wr.heap.size Bx x.at_ bb bo ll.length vc size x.lo x.hi ua l.length uc (.slice oa L.length oc) W0.heap.size L lvs R W (fun k => (#[.int .i64 size, .slice (some ⟨bb, bo, none⟩) ll.length vc, .int .i64 index, .int .i64 limit, .pointer (some ⟨w.heap.size, 0, none⟩), .pointer (some ⟨w.heap.size + 1, 0, none⟩), undef, undef, .slice none 0 0, .slice (some ⟨w.heap.size + 1 + 1, 0, none⟩) ll.length ll.length, u10, u11, .pointer (some ⟨wr.heap.size, 0, none⟩), .int .i64 x.at_, .pointer (some ⟨Bx, 0, none⟩), .slice (some ⟨bb, bo, none⟩) ll.length vc, .int .i64 ll.length, .slice (some ⟨w.heap.size + 1 + 1, 0, none⟩) ll.length ll.length, .slice (some ⟨bb, bo, none⟩) ll.length vc, .int .i64 ll.length, .int .i64 ll.length, .bool false, u22, u23, u24, u25, u26, u27, u28, u29, u30, .slice (some ⟨w.heap.size + 1 + 1, 0, none⟩) ll.length ll.length, .int .i64 index, .int .i64 limit, .func (.func 104) #[] #[.pointer (some ⟨wr.heap.size + 1, 0, none⟩), .pointer (some ⟨wr.heap.size + 1 + 1, 0, none⟩), .pointer (some ⟨wr.heap.size + 1 + 1 + 1, 0, none⟩)], .int .i64 x.at_, .agg #[.int .i64 x.lo, .int .i64 x.hi], undef, undef, undef, undef, undef, undef, undef, undef, undef, undef, undef, undef, undef, undef, undef, undef] : Array Value).getD k undef)) (by kernel_rfl) (by kernel_rfl) (by kernel_rfl) ?start ?step ?fin
        case start =>
          refine ⟨fun _ => undef, rfl, ⟨(fun q => by cases q), (fun q => by cases q), (fun q => by cases q), (fun q => by cases q), (fun q => by cases q), (fun q => by cases q), (fun q => by cases q), (fun q => by cases q), (fun q => by cases q), (fun q => by cases q), (fun q => by cases q)⟩, ?_⟩
          exact ⟨fun _ => (Below.refl _ W).drew, (Turns.refl _ W).drew, KeepsOthers.drew W, hbx, (fun q => by cases q), (fun q => by cases q), (fun q => by cases q), (fun q => by cases q)⟩
        case step =>
          intro D a zw i hi hI hD hcl hn
          obtain ⟨u, rfl, hT, hW⟩ := hI
          have hi' : i < 16 := hi
          clear hi
          have hkI : (x.at_ : Int) < (ll.length : Int) := by omega
          rcases (show i = 0 ∨ i = 1 ∨ i = 2 ∨ i = 3 ∨ i = 4 ∨ i = 5 ∨ i = 6 ∨ i = 7 ∨ i = 8 ∨ i = 9 ∨ i = 10 ∨ i = 11 ∨ i = 12 ∨ i = 13 ∨ i = 14 ∨ i = 15 from by omega) with rfl | rfl | rfl | rfl | rfl | rfl | rfl | rfl | rfl | rfl | rfl | rfl | rfl | rfl | rfl | rfl
          · have n14 : D 14 = false := by
              cases q : D 14 with
              | false => rfl
              | true => have := (hcl 14 0 q (needs_b (by kernel_rfl))); rw [hD] at this; cases this
            have hbl := hW.bel n14
            have n15 : D 15 = false := by
              cases q : D 15 with
              | false => rfl
              | true => have := hcl 15 0 q (needs_b (by kernel_rfl)); rw [hD] at this; cases this
            have c0 : zw.cell? ⟨wr.heap.size, 0, none⟩ = some (.slice oa L.length oc) := hW.bx.cell.trans (by rw [n15]; rfl)
            refine opW_plain rfl rfl ?_
            go_simp
            exact ⟨upd u 37 (.slice oa L.length oc), rfl, ⟨fun _ => rfl, fun h => hT.s1 h, fun h => hT.s2 h, fun h => hT.s3 h, fun h => hT.s4 h, fun h => hT.s5 h, fun h => hT.s6 h, fun h => hT.s8 h, fun h => hT.s9 h, fun h => hT.s10 h, fun h => hT.s11 h⟩, ⟨hW.bel, hW.tur, hW.kee, hW.bx, hW.ol2, hW.lv, hW.rg, hW.lit⟩⟩
          · have n14 : D 14 = false := by
              cases q : D 14 with
              | false => rfl
              | true => have := (hcl 12 1 (hcl 13 12 (hcl 14 13 q (needs_b (by kernel_rfl))) (needs_b (by kernel_rfl))) (needs_b (by kernel_rfl))); rw [hD] at this; cases this
            have hbl := hW.bel n14
            have c0 : zw.cell? ⟨w.heap.size, 0, none⟩ = some (.int .i64 size) := (hbl.cell (p := ⟨w.heap.size, 0, none⟩) KS.out.lt).trans KS.out.cell
            refine opW_plain rfl rfl ?_
            go_simp
            exact ⟨upd u 38 (.int .i64 size), rfl, ⟨fun h => hT.s0 h, fun _ => rfl, fun h => hT.s2 h, fun h => hT.s3 h, fun h => hT.s4 h, fun h => hT.s5 h, fun h => hT.s6 h, fun h => hT.s8 h, fun h => hT.s9 h, fun h => hT.s10 h, fun h => hT.s11 h⟩, ⟨hW.bel, hW.tur, hW.kee, hW.bx, hW.ol2, hW.lv, hW.rg, hW.lit⟩⟩
          · have n14 : D 14 = false := by
              cases q : D 14 with
              | false => rfl
              | true => have := (hcl 7 2 (hcl 12 7 (hcl 13 12 (hcl 14 13 q (needs_b (by kernel_rfl))) (needs_b (by kernel_rfl))) (needs_b (by kernel_rfl))) (needs_b (by kernel_rfl))); rw [hD] at this; cases this
            have hbl := hW.bel n14
            have c0 : zw.cell? ⟨w.heap.size, 0, none⟩ = some (.int .i64 size) := (hbl.cell (p := ⟨w.heap.size, 0, none⟩) KS.out.lt).trans KS.out.cell
            refine opW_plain rfl rfl ?_
            go_simp
            exact ⟨upd u 39 (.int .i64 size), rfl, ⟨fun h => hT.s0 h, fun h => hT.s1 h, fun _ => rfl, fun h => hT.s3 h, fun h => hT.s4 h, fun h => hT.s5 h, fun h => hT.s6 h, fun h => hT.s8 h, fun h => hT.s9 h, fun h => hT.s10 h, fun h => hT.s11 h⟩, ⟨hW.bel, hW.tur, hW.kee, hW.bx, hW.ol2, hW.lv, hW.rg, hW.lit⟩⟩
          · have n14 : D 14 = false := by
              cases q : D 14 with
              | false => rfl
              | true => have := (hcl 5 3 (hcl 6 5 (hcl 7 6 (hcl 12 7 (hcl 13 12 (hcl 14 13 q (needs_b (by kernel_rfl))) (needs_b (by kernel_rfl))) (needs_b (by kernel_rfl))) (needs_b (by kernel_rfl))) (needs_b (by kernel_rfl))) (needs_b (by kernel_rfl))); rw [hD] at this; cases this
            have hbl := hW.bel n14
            have c0 : zw.cell? ⟨(w.heap.size + 1), 0, none⟩ = some (.slice (some ⟨bb, bo, none⟩) ll.length vc) := (hbl.cell (p := ⟨(w.heap.size + 1), 0, none⟩) KB.out.lt).trans KB.out.cell
            refine opW_plain rfl rfl ?_
            go_simp
            exact ⟨upd u 40 (.slice (some ⟨bb, bo, none⟩) ll.length vc), rfl, ⟨fun h => hT.s0 h, fun h => hT.s1 h, fun h => hT.s2 h, fun _ => rfl, fun h => hT.s4 h, fun h => hT.s5 h, fun h => hT.s6 h, fun h => hT.s8 h, fun h => hT.s9 h, fun h => hT.s10 h, fun h => hT.s11 h⟩, ⟨hW.bel, hW.tur, hW.kee, hW.bx, hW.ol2, hW.lv, hW.rg, hW.lit⟩⟩
          · have n14 : D 14 = false := by
              cases q : D 14 with
              | false => rfl
              | true => have := (hcl 5 4 (hcl 6 5 (hcl 7 6 (hcl 12 7 (hcl 13 12 (hcl 14 13 q (needs_b (by kernel_rfl))) (needs_b (by kernel_rfl))) (needs_b (by kernel_rfl))) (needs_b (by kernel_rfl))) (needs_b (by kernel_rfl))) (needs_b (by kernel_rfl))); rw [hD] at this; cases this
            have hbl := hW.bel n14
            refine opW_plain rfl rfl ?_
            go_simp
            exact ⟨upd u 41 (.int .i64 x.at_), rfl, ⟨fun h => hT.s0 h, fun h => hT.s1 h, fun h => hT.s2 h, fun h => hT.s3 h, fun _ => rfl, fun h => hT.s5 h, fun h => hT.s6 h, fun h => hT.s8 h, fun h => hT.s9 h, fun h => hT.s10 h, fun h => hT.s11 h⟩, ⟨hW.bel, hW.tur, hW.kee, hW.bx, hW.ol2, hW.lv, hW.rg, hW.lit⟩⟩
          · have n14 : D 14 = false := by
              cases q : D 14 with
              | false => rfl
              | true => have := (hcl 6 5 (hcl 7 6 (hcl 12 7 (hcl 13 12 (hcl 14 13 q (needs_b (by kernel_rfl))) (needs_b (by kernel_rfl))) (needs_b (by kernel_rfl))) (needs_b (by kernel_rfl))) (needs_b (by kernel_rfl))); rw [hD] at this; cases this
            have d3 : D 3 = true := hn 3 (needs_b (by kernel_rfl))
            have d4 : D 4 = true := hn 4 (needs_b (by kernel_rfl))
            have e40 := hT.s3 d3
            have e41 := hT.s4 d4
            have hbl := hW.bel n14
            refine opW_plain rfl rfl ?_
            go_simp
            exact ⟨upd u 42 (.pointer (some ⟨bb, bo + x.at_, none⟩)), by first | rfl | simp [upd, e40, e41], ⟨fun h => hT.s0 h, fun h => hT.s1 h, fun h => hT.s2 h, fun h => hT.s3 h, fun h => hT.s4 h, fun _ => rfl, fun h => hT.s6 h, fun h => hT.s8 h, fun h => hT.s9 h, fun h => hT.s10 h, fun h => hT.s11 h⟩, ⟨hW.bel, hW.tur, hW.kee, hW.bx, hW.ol2, hW.lv, hW.rg, hW.lit⟩⟩
          · have n14 : D 14 = false := by
              cases q : D 14 with
              | false => rfl
              | true => have := (hcl 7 6 (hcl 12 7 (hcl 13 12 (hcl 14 13 q (needs_b (by kernel_rfl))) (needs_b (by kernel_rfl))) (needs_b (by kernel_rfl))) (needs_b (by kernel_rfl))); rw [hD] at this; cases this
            have d5 : D 5 = true := hn 5 (needs_b (by kernel_rfl))
            have e42 := hT.s5 d5
            have hbl := hW.bel n14
            have c0 : zw.cell? ⟨bb, bo + x.at_, none⟩ = some (.slice ua l.length uc) := (hbl.cell (p := ⟨bb, bo + x.at_, none⟩) HEL.out.1).trans HEL.out.2
            refine opW_plain rfl rfl ?_
            go_simp
            exact ⟨upd u 43 (.slice ua l.length uc), by first | rfl | simp [upd, e42], ⟨fun h => hT.s0 h, fun h => hT.s1 h, fun h => hT.s2 h, fun h => hT.s3 h, fun h => hT.s4 h, fun h => hT.s5 h, fun _ => rfl, fun h => hT.s8 h, fun h => hT.s9 h, fun h => hT.s10 h, fun h => hT.s11 h⟩, ⟨hW.bel, hW.tur, hW.kee, hW.bx, hW.ol2, hW.lv, hW.rg, hW.lit⟩⟩
          · have n14 : D 14 = false := by
              cases q : D 14 with
              | false => rfl
              | true => have := (hcl 12 7 (hcl 13 12 (hcl 14 13 q (needs_b (by kernel_rfl))) (needs_b (by kernel_rfl))) (needs_b (by kernel_rfl))); rw [hD] at this; cases this
            have d2 : D 2 = true := hn 2 (needs_b (by kernel_rfl))
            have d6 : D 6 = true := hn 6 (needs_b (by kernel_rfl))
            have e39 := hT.s2 d2
            have e43 := hT.s6 d6
            have hbl := hW.bel n14
            refine opW_plain rfl rfl ?_
            go_simp
            go_at_call 64
            refine (HLV.out zw hbl).mono ?_
            rintro e zw2 ⟨zx, rfl, hx, hb2⟩
            have hW := hW.below hb2 n14
            exact ⟨upd u 44 zx, by first | rfl | simp [upd, e39, e43], ⟨fun h => hT.s0 h, fun h => hT.s1 h, fun h => hT.s2 h, fun h => hT.s3 h, fun h => hT.s4 h, fun h => hT.s5 h, fun h => hT.s6 h, fun h => hT.s8 h, fun h => hT.s9 h, fun h => hT.s10 h, fun h => hT.s11 h⟩, ⟨hW.bel, hW.tur, hW.kee, hW.bx, hW.ol2, (fun _ _ => hx), hW.rg, hW.lit⟩⟩
          · have n14 : D 14 = false := by
              cases q : D 14 with
              | false => rfl
              | true => have := (hcl 9 8 (hcl 12 9 (hcl 13 12 (hcl 14 13 q (needs_b (by kernel_rfl))) (needs_b (by kernel_rfl))) (needs_b (by kernel_rfl))) (needs_b (by kernel_rfl))); rw [hD] at this; cases this
            have hbl := hW.bel n14
            refine opW_plain rfl rfl ?_
            go_simp
            exact ⟨upd u 45 (.pointer (some ⟨Bx, 0, none⟩)), rfl, ⟨fun h => hT.s0 h, fun h => hT.s1 h, fun h => hT.s2 h, fun h => hT.s3 h, fun h => hT.s4 h, fun h => hT.s5 h, fun h => hT.s6 h, fun _ => rfl, fun h => hT.s9 h, fun h => hT.s10 h, fun h => hT.s11 h⟩, ⟨hW.bel, hW.tur, hW.kee, hW.bx, hW.ol2, hW.lv, hW.rg, hW.lit⟩⟩
          · have n14 : D 14 = false := by
              cases q : D 14 with
              | false => rfl
              | true => have := (hcl 12 9 (hcl 13 12 (hcl 14 13 q (needs_b (by kernel_rfl))) (needs_b (by kernel_rfl))) (needs_b (by kernel_rfl))); rw [hD] at this; cases this
            have d8 : D 8 = true := hn 8 (needs_b (by kernel_rfl))
            have e45 := hT.s8 d8
            have hbl := hW.bel n14
            have c0 : zw.cell? ⟨Bx, 0, none⟩ = some (.int .i64 x.lo) := (hbl.cell (p := ⟨Bx, 0, none⟩) KX.out.lt).trans (KX.out.cell 0)
            refine opW_plain rfl rfl ?_
            go_simp
            exact ⟨upd u 46 (.int .i64 x.lo), by first | rfl | simp [upd, e45], ⟨fun h => hT.s0 h, fun h => hT.s1 h, fun h => hT.s2 h, fun h => hT.s3 h, fun h => hT.s4 h, fun h => hT.s5 h, fun h => hT.s6 h, fun h => hT.s8 h, fun _ => rfl, fun h => hT.s10 h, fun h => hT.s11 h⟩, ⟨hW.bel, hW.tur, hW.kee, hW.bx, hW.ol2, hW.lv, hW.rg, hW.lit⟩⟩
          · have n14 : D 14 = false := by
              cases q : D 14 with
              | false => rfl
              | true => have := (hcl 11 10 (hcl 12 11 (hcl 13 12 (hcl 14 13 q (needs_b (by kernel_rfl))) (needs_b (by kernel_rfl))) (needs_b (by kernel_rfl))) (needs_b (by kernel_rfl))); rw [hD] at this; cases this
            have hbl := hW.bel n14
            refine opW_plain rfl rfl ?_
            go_simp
            exact ⟨upd u 47 (.pointer (some ⟨Bx, 1, none⟩)), rfl, ⟨fun h => hT.s0 h, fun h => hT.s1 h, fun h => hT.s2 h, fun h => hT.s3 h, fun h => hT.s4 h, fun h => hT.s5 h, fun h => hT.s6 h, fun h => hT.s8 h, fun h => hT.s9 h, fun _ => rfl, fun h => hT.s11 h⟩, ⟨hW.bel, hW.tur, hW.kee, hW.bx, hW.ol2, hW.lv, hW.rg, hW.lit⟩⟩
          · have n14 : D 14 = false := by
              cases q : D 14 with
              | false => rfl
              | true => have := (hcl 12 11 (hcl 13 12 (hcl 14 13 q (needs_b (by kernel_rfl))) (needs_b (by kernel_rfl))) (needs_b (by kernel_rfl))); rw [hD] at this; cases this
            have d10 : D 10 = true := hn 10 (needs_b (by kernel_rfl))
            have e47 := hT.s10 d10
            have hbl := hW.bel n14
            have c0 : zw.cell? ⟨Bx, 1, none⟩ = some (.int .i64 x.hi) := (hbl.cell (p := ⟨Bx, 1, none⟩) KX.out.lt).trans (KX.out.cell 1)
            refine opW_plain rfl rfl ?_
            go_simp
            exact ⟨upd u 48 (.int .i64 x.hi), by first | rfl | simp [upd, e47], ⟨fun h => hT.s0 h, fun h => hT.s1 h, fun h => hT.s2 h, fun h => hT.s3 h, fun h => hT.s4 h, fun h => hT.s5 h, fun h => hT.s6 h, fun h => hT.s8 h, fun h => hT.s9 h, fun h => hT.s10 h, fun _ => rfl⟩, ⟨hW.bel, hW.tur, hW.kee, hW.bx, hW.ol2, hW.lv, hW.rg, hW.lit⟩⟩
          · have n14 : D 14 = false := by
              cases q : D 14 with
              | false => rfl
              | true => have := (hcl 13 12 (hcl 14 13 q (needs_b (by kernel_rfl))) (needs_b (by kernel_rfl))); rw [hD] at this; cases this
            have d1 : D 1 = true := hn 1 (needs_b (by kernel_rfl))
            have d7 : D 7 = true := hn 7 (needs_b (by kernel_rfl))
            have d9 : D 9 = true := hn 9 (needs_b (by kernel_rfl))
            have d11 : D 11 = true := hn 11 (needs_b (by kernel_rfl))
            have e38 := hT.s1 d1
            have e46 := hT.s9 d9
            have e48 := hT.s11 d11
            have hbl := hW.bel n14
            have hlv := hW.lv d7 n14
            obtain ⟨zxa, zxc, e44, _, _⟩ := hlv.shape
            rw [e44] at hlv
            refine opW_plain rfl rfl ?_
            go_simp
            go_at_call 63
            refine (HRG.out zw hbl _ hlv).mono ?_
            rintro e zw2 ⟨zx, rfl, hx, hb2⟩
            have hW := hW.below hb2 n14
            exact ⟨upd u 49 zx, by first | rfl | simp [upd, e44, e38, e46, e48], ⟨fun h => hT.s0 h, fun h => hT.s1 h, fun h => hT.s2 h, fun h => hT.s3 h, fun h => hT.s4 h, fun h => hT.s5 h, fun h => hT.s6 h, fun h => hT.s8 h, fun h => hT.s9 h, fun h => hT.s10 h, fun h => hT.s11 h⟩, ⟨hW.bel, hW.tur, hW.kee, hW.bx, hW.ol2, hW.lv, (fun _ _ => OSls.base hx (Nat.zero_le _)), (fun q => (by have := hcl 13 12 q (needs_b (by kernel_rfl)); rw [hD] at this; cases this))⟩⟩
          · have n14 : D 14 = false := by
              cases q : D 14 with
              | false => rfl
              | true => have := (hcl 14 13 q (needs_b (by kernel_rfl))); rw [hD] at this; cases this
            have d12 : D 12 = true := hn 12 (needs_b (by kernel_rfl))
            have hrg := hW.rg d12 n14
            obtain ⟨ya, yc, e49⟩ := hrg.val
            have hb2 : Below zw.heap.size zw (zw.alloc (.cells #[.slice ya R.length yc] 23)) := (Below.refl _ _).alloc (Nat.le_refl _) _
            have kb := Blk.new zw 23 #[.slice ya R.length yc]
            refine opW_plain rfl rfl ?_
            go_simp
            have hW := hW.below hb2 n14
            exact ⟨upd u 50 (.slice (some ⟨zw.heap.size, 0, none⟩) 1 1), by first | rfl | simp [upd, e49], ⟨fun h => hT.s0 h, fun h => hT.s1 h, fun h => hT.s2 h, fun h => hT.s3 h, fun h => hT.s4 h, fun h => hT.s5 h, fun h => hT.s6 h, fun h => hT.s8 h, fun h => hT.s9 h, fun h => hT.s10 h, fun h => hT.s11 h⟩, ⟨hW.bel, hW.tur, hW.kee, hW.bx, hW.ol2, hW.lv, hW.rg, (fun _ _ => ⟨zw.heap.size, rfl, by show Blk _ _ _ #[u 49]; rw [e49]; exact kb⟩)⟩⟩
          · have d0 : D 0 = true := hn 0 (needs_b (by kernel_rfl))
            have d13 : D 13 = true := hn 13 (needs_b (by kernel_rfl))
            have d12 : D 12 = true := hn 12 (needs_b (by kernel_rfl))
            have e37 := hT.s0 d0
            obtain ⟨b, e50, kb⟩ := hW.lit d13 hD
            have hrg := hW.rg d12 hD
            have hbl := hW.bel hD
            have hol := HOL.out.below hbl
            have n15 : D 15 = false := by
              cases q : D 15 with
              | false => rfl
              | true => have := hcl 15 14 q (needs_b (by kernel_rfl)); rw [hD] at this; cases this
            refine opW_step rfl rfl (step_append_level rfl (.tmp 37) (.tmp 50) rfl W0.heap.size (.slice oa L.length oc) L e37 hol b 1 e50 (u 49) (kb.cell 0) R hrg HLN.out (Nat.le_trans HBS.out hbl.size) ?_)
            intro v2 zw2 hx hb2 hg2
            have hgt : Turns ((.slice oa L.length oc : Value).ownBlock.toList) zw zw2 := Turns.of_grown hg2 (fun g e => by simp [e])
            obtain ⟨vs, hk1, _⟩ := hol
            have hbn : ∀ g, (Value.slice oa L.length oc).ownBlock = some g → wr.heap.size ≠ g := fun g hg e => by
              obtain ⟨cur, hc, _⟩ := hk1.2 g hg
              have hb := hW.bx
              rw [e] at hb
              rw [show zw.heap[g]? = _ from hb] at hc
              simp at hc
            exact ⟨upd u 51 v2, rfl, ⟨fun h => hT.s0 h, fun h => hT.s1 h, fun h => hT.s2 h, fun h => hT.s3 h, fun h => hT.s4 h, fun h => hT.s5 h, fun h => hT.s6 h, fun h => hT.s8 h, fun h => hT.s9 h, fun h => hT.s10 h, fun h => hT.s11 h⟩, ⟨fun q => (by cases q), hW.tur.trans (hgt.mono fun q hk => List.mem_cons_of_mem _ hk), hW.kee.trans (KeepsOthers.ownK hk1 hg2), by have h := (hg2.block wr.heap.size hW.bx.lt (fun e => hbn wr.heap.size e.symm rfl)).trans hW.bx; rw [n15] at h; show Boxed _ _ _ (cond (D 15) v2 (.slice oa L.length oc)); rw [n15]; exact h, fun _ => hx, fun _ q => (by cases q), fun _ q => (by cases q), fun _ q => (by cases q)⟩⟩
          · have d14 : D 14 = true := hn 14 (needs_b (by kernel_rfl))
            have hx := hW.ol2 d14
            obtain ⟨ya, yc, e51⟩ := hx.val
            have c0 : zw.cell? ⟨wr.heap.size, 0, none⟩ = some (.slice oa L.length oc) := hW.bx.cell.trans (by rw [hD]; rfl)
            have f0 := hW.bx.frozen
            have hx2 := hx.boxed (x := .slice ya (L ++ [R]).length yc) hW.bx (fun n => by rw [hD]; intro e; cases e)
            have hb2 := hW.bx.set (.slice ya (L ++ [R]).length yc)
            generalize (L ++ [R]).length = lenX at *
            refine opW_plain rfl rfl ?_
            go_simp
            exact ⟨u, by first | rfl | simp [e51], ⟨fun h => hT.s0 h, fun h => hT.s1 h, fun h => hT.s2 h, fun h => hT.s3 h, fun h => hT.s4 h, fun h => hT.s5 h, fun h => hT.s6 h, fun h => hT.s8 h, fun h => hT.s9 h, fun h => hT.s10 h, fun h => hT.s11 h⟩, ⟨fun q => (by rw [show D 14 = false from q] at d14; cases d14), hW.tur.trans (Turns.setCell _ _ (by simp) _), hW.kee.trans (KeepsOthers.setCell _ _ _), by show Boxed _ _ _ (u 51); rw [e51]; exact hb2, fun _ => hx2, fun _ q => (by rw [show D 14 = false from q] at d14; cases d14), fun _ q => (by rw [show D 14 = false from q] at d14; cases d14), fun _ q => (by rw [show D 14 = false from q] at d14; cases d14)⟩⟩
        case fin =>
          intro D a zw hI hall
          obtain ⟨u, rfl, hT, hW⟩ := hI
          have hbx2 := hW.bx
          rw [hall 15 (by decide)] at hbx2
          exact HFIN.out zw hW.tur hW.kee ⟨_, hbx2, hW.ol2 (hall 14 (by decide))⟩
      case done =>
        rintro D W hD ⟨⟨v, hv, ho⟩, hn1, hn2, hs, hb, hbl⟩ hK
        have hc := hv.cell
        have HALL := Lib.hid (show showsI size ll (cutsI (cntI ll) index limit) = showsI size ll all by rw [hall])
        clear hall
        generalize showsI size ll all = LL at *
        obtain ⟨va2, vc2, rfl⟩ := ho.val
        have HO := Lib.hid ho
        have HBL := Lib.hid hbl
        have HK := Lib.hid hK
        have HWZ := Lib.hid hwz
        have HSZ := Lib.hid hsz0
        have HDD := Lib.hid hD
        clear hwz hsz0 hD
        clear hOwn hxb hB0 c0 c1 c2 c3 hv ho hbl hs hb hn1 hn2 hlaw hseq hmk kS0 kB0 hR0
        gi_wp2
        refine ⟨by simp, .inl ⟨_, _, rfl, run_takeDeferred HK.out, ?_⟩⟩
        have ht : Turns [D] W (W.putObj D (.deferred none)) := Turns.putObj _ _ _
        have hwz := HWZ.out
        have hsz0 := HSZ.out
        have hD := HDD.out
        refine ⟨_, results_tmp rfl _ _ _, _, rfl, ?_, ?_⟩
        · have hbs : w.heap.size ≤ W0.heap.size := by omega
          rw [HALL.out]
          exact (HO.out.base hbs).turns ht (fun k hk => by obtain rfl := List.mem_singleton.1 hk; exact .inr ⟨_, HK.out, rfl⟩)
        · exact HBL.out.trans ⟨rfl, rfl, rfl, by simp, fun k hk => World.putObj_heap_other (by omega)⟩
      case stop =>
        rintro D c pre W _ _ h _
        exact h.elim

end Go.Proofs.YtililoojjfcfgaaDoor
