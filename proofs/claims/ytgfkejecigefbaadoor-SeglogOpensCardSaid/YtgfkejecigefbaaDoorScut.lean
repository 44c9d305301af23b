
/- seglog.cut: bytes as sectors, noughts behind them. Conditions: a million bytes at most, and not none. -/
import Derived.Test.YtgfkejecigefbaaDoorChn
import Derived.Test.YtgfkejecigefbaaDoorInvIn
import Derived.Test.YtgfkejecigefbaaDoorDvE
import Derived.Test.YtgfkejecigefbaaDoorMake
import Derived.Test.YtgfkejecigefbaaDoorCuts
import Derived.Laws.CopyOwn
namespace Go.Proofs.YtgfkejecigefbaaDoor
open Go.RowKit Go.Shelf
set_option linter.unusedVariables false
attribute [local go_sem] Oper.semAt_some

def pieceI (bs : List Int) (k : Nat) : List Int := padTo 64 (bs.drop (64 * k))
/-- Bytes as sectors, noughts behind them. -/
def cut64 (bs : List Int) : List (List Int) := (List.range (parts64 bs.length)).map (pieceI bs)
theorem pieceI_len (bs : List Int) (k : Nat) : (pieceI bs k).length = 64 := padTo_len _ _
theorem pieceI_isB {bs : List Int} (h : IsB bs) (k : Nat) : IsB (pieceI bs k) := padTo_isB (h.drop _) _
theorem cut64_len (bs : List Int) : (cut64 bs).length = parts64 bs.length := by simp [cut64]
theorem cut64_64 (bs : List Int) : ∀ p ∈ cut64 bs, p.length = 64 := by
  intro p hp
  obtain ⟨k, _, rfl⟩ := List.mem_map.1 hp
  exact pieceI_len bs k
theorem cut64_isB {bs : List Int} (h : IsB bs) : ∀ p ∈ cut64 bs, IsB p := by
  intro p hp
  obtain ⟨k, _, rfl⟩ := List.mem_map.1 hp
  exact pieceI_isB h k

theorem Turns.only {bs : List Nat} {w w' : World} (h : Turns bs w w') : Only bs w w' := ⟨h.os, h.tape, h.output, h.size, h.block⟩

theorem wpListIn_of_step {P : Program} {ops : Array Oper} {rest : List Oper} {o : Oper} {a : Act} {w : World} {Q : Exit → Act → World → Prop} {l n : Nat} (hgd : o.guard = none) (hd : ∀ c, o.op ≠ .defer c)
    (h : ∀ K : Act → World → Prop, (∀ a w, wpListIn (Fence.wide.inRound l) n P ops Q rest a w → K a w) → (if Region.wanted o (yielded ops a.tmps) = true then Oper.wp P o a w K Q else True)) : wpListIn (Fence.wide.inRound l) n P ops Q (o :: rest) a w :=
  wpListIn_plain hgd fun K hK => opIn_of_wp hd (by have := h K hK; rwa [if_pos (by simp [Region.wanted, hgd])] at this)

theorem step_copy_pad {w : World} {ops : Array Oper} {o : Oper} {a : Act} {K : Act → World → Prop} {Q : Exit → Act → World → Prop} {E : Prop} (hgd : o.guard = none) (d s : Operand)
    (ho : o.op = .call { callee := .builtin .copy, args := #[d, s], argTypes := #[26, 26] })
    (g n cap : Nat) (hd : a.eval d = .slice (some ⟨g, 0, none⟩) n cap) (u : Value) (ys : List Int) (hs : a.eval s = u) (hsl : Sl w u (ys.map (Value.int .u8)))
    (hg0 : Blk w g 5 (Array.replicate n (Value.int .u8 0))) (B : Nat) (w0 : World) (hb : Below B w0 w) (hBg : B ≤ g)
    (h : ∀ w' (k : Int), Hid (Blk w' g 5 (((padTo n ys).map (Value.int .u8)).toArray)) → Below B w0 w' → K (a.put o.dst (.int .i64 k)) w') : if Region.wanted o (yielded ops a.tmps) = true then Oper.wp Tryd.prog o a w K Q else E := by
  have hg : Blk w g 5 (((List.replicate n (0 : Int)).map (Value.int .u8)).toArray) := by
    rw [List.map_replicate, List.toArray_replicate]; exact hg0
  obtain ⟨ua, uc, rfl, h1, h2, h3⟩ := hsl
  rw [List.length_map] at *
  refine step_copy_splice hgd d s _ _ ho 5 Tryd.underlying26 infoSize8 (some ⟨g, 0, none⟩) ua n cap ys.length uc hd hs g 0 ((List.replicate n (0 : Int)).map (Value.int .u8)) 5 hg ((ys.take n).map (Value.int .u8))
    (by rw [List.length_map, List.length_take]; exact Nat.min_comm _ _) (fun hp => ⟨rfl, ?_⟩) (by simp; omega) (one8 _) B w0 hb hBg (fun w' hw' hb' => ?_)
  · obtain ⟨b, off, rfl, hlt, hc⟩ := h3 (by simp at hp ⊢; omega)
    refine ⟨_, rfl, fun j v hv => ?_⟩
    rw [add_plain0]
    refine hc j v ?_
    rw [List.getElem?_map, List.getElem?_take] at hv
    rw [List.getElem?_map]
    split at hv
    · exact hv
    · cases hv
  · refine h w' _ ?_ hb'
    have e : splice ((List.replicate n (0 : Int)).map (Value.int .u8)) 0 ((ys.take n).map (Value.int .u8)) = (padTo n ys).map (Value.int .u8) := by
      unfold splice padTo
      rw [List.take_zero, List.nil_append, Nat.zero_add, ← List.map_drop, List.length_map, List.drop_replicate, ← List.map_append]
      congr 3
      simp
      omega
    show Blk w' g _ _
    have := hw'.out
    rwa [e] at this

theorem OBs.notBox {w : World} {base : Nat} {v u : Value} {pss : List (List Int)} (h : OBs w base v pss) {B : Nat} (hb : Boxed w B 27 u) : v.ownBlock ≠ some B := by
  obtain ⟨vs, r, _⟩ := h
  intro e
  obtain ⟨cur, k⟩ := owns_blk r e
  exact Blk.ne_ (t' := 27) (cs' := #[u]) k hb (by decide) rfl
theorem box_clear {w : World} {B : Nat} {u : Value} (hb : Boxed w B 27 u) : ∀ g ∈ [B], ∀ cur, ¬ Blk w g 5 cur ∧ ¬ Blk w g 26 cur := by
  intro g hg cur
  obtain rfl : g = B := by simpa using hg
  exact ⟨fun k => Blk.ne_ (t' := 27) (cs' := #[u]) k hb (by decide) rfl, fun k => Blk.ne_ (t' := 27) (cs' := #[u]) k hb (by decide) rfl⟩
/-- A box of a row of texts, behind an append to the row. -/
theorem obox_append {W w1 : World} {base B : Nat} {v v' : Value} {pss pss' : List (List Int)} (hv : Boxed W B 27 v) (hrow : OBs W base v pss) (hown : OBs w1 base v' pss') (hg : W.grownBy w1 v.ownBlock) :
    Boxed w1 B 27 v ∧ Boxed (w1.setCell ⟨B, 0, none⟩ v') B 27 v' ∧ OBs (w1.setCell ⟨B, 0, none⟩ v') base v' pss' ∧ KeepsOthers W (w1.setCell ⟨B, 0, none⟩ v') ∧ Turns (B :: v.ownBlock.toList) W (w1.setCell ⟨B, 0, none⟩ v') ∧ (∀ g ∈ v.ownBlock.toList, base ≤ g) := by
  have hne := hrow.notBox hv
  have hv1 : Boxed w1 B 27 v := (hg.block B hv.lt (fun e => hne e.symm)).trans hv
  obtain ⟨vs, r, _⟩ := hrow
  refine ⟨hv1, hv1.set v', hown.only (Only.setCell [B] _ (by simp) _) (box_clear hv1), ?_, ?_, fun g hm => (owns_cells r (by simpa using hm)).1⟩
  · refine (KeepsOthers.of_grownBy hg fun j o ej hj => ?_).trans (KeepsOthers.setCell _ _ _)
    obtain ⟨_, cur, hh⟩ := owns_cells r ej
    rw [hh] at hj; cases hj; rfl
  · exact (Turns.of_grown hg fun g e => by simp [e]).trans (Turns.setCell _ _ (by simp) _)
theorem OBs.succ {w : World} {base : Nat} {v : Value} {pss : List (List Int)} (h : OBs w base v pss) (hp : 0 < pss.length) : ∃ g c, v = .slice (some ⟨g, 0, none⟩) pss.length c := by
  obtain ⟨vs, r, _⟩ := h
  obtain ⟨g, cap, e, _⟩ := r.form hp
  exact ⟨g, cap, e⟩
theorem piece_sl {W : World} {sb so cap : Nat} {bs : List Int} (h : Sl W (.slice (some ⟨sb, so, none⟩) bs.length cap) (bs.map (Value.int .u8))) {k : Nat} (hk : 64 * k < bs.length) :
    Sl W (.slice (some ⟨sb, so + 64 * k, none⟩) (min 64 (bs.length - 64 * k)) (min 64 (bs.length - 64 * k))) (((bs.drop (64 * k)).take 64).map (Value.int .u8)) := by
  obtain ⟨a', cap', e, h1, h2, h3⟩ := h
  rw [List.length_map] at e h1 h3
  cases e
  have hl : (((bs.drop (64 * k)).take 64).map (Value.int .u8)).length = min 64 (bs.length - 64 * k) := by simp
  refine ⟨_, min 64 (bs.length - 64 * k), by rw [hl], by rw [hl]; exact Nat.le_refl _, by unfold maxLen; omega, fun _ => ?_⟩
  obtain ⟨b, off, e, hlt, hc⟩ := h3 (by omega)
  cases e
  refine ⟨_, _, rfl, hlt, fun j u hu => ?_⟩
  rw [List.getElem?_map, List.getElem?_take] at hu
  split at hu
  · rw [List.getElem?_drop, ← List.getElem?_map] at hu
    have := hc _ u hu
    rwa [← Nat.add_assoc] at this
  · cases hu
theorem padTo_take (n : Nat) (b : List Int) : padTo n (b.take n) = padTo n b := by
  unfold padTo
  rw [List.take_take, Nat.min_self, List.length_take]
  congr 2
  omega
theorem OB.ofBlk {w : World} {base g : Nat} {p : List Int} (h : Blk w g 5 ((p.map (Value.int .u8)).toArray)) (hb : base ≤ g) (hl : p.length ≤ 1000000) : OB w base (.slice (some ⟨g, 0, none⟩) p.length p.length) p := by
  unfold OB
  refine ⟨by simp, Or.inr ⟨g, p.length, (p.map (Value.int .u8)).toArray, rfl, hb, h, Nat.le_refl _, by unfold maxLen; omega, by simp, List.take_of_length_le (by simp)⟩⟩

theorem keepsO_below {w w' : World} (h : Below w.heap.size w w') : KeepsOthers w w' := ⟨h.size, fun k o hk _ => (h.block k (Array.getElem?_eq_some_iff.1 hk).1).trans hk⟩
def zer64 : Array Value := Array.replicate 64 (Value.int .u8 0)
theorem run_make64 (w : World) : (Instr.makeSlice 26 (.int .i64 64) (.int .i64 64)).run Tryd.prog w = .ok (.slice (some ⟨w.heap.size, 0, none⟩) 64 64) (w.alloc (.cells zer64 5)) := run_make_bytes 64 (by omega) w

set_option maxRecDepth 100000 in
set_option maxHeartbeats 2000000 in
theorem scut_any (v : Value) (bs : List Int) (w : World) (h0 : 0 < bs.length) (hl : bs.length ≤ 1000000) (hs : Sl w v (bs.map (Value.int .u8))) :
    Calls Tryd.prog 57 #[v] w fun e w' => ∃ x, e = .returned x ∧ OBs w' w.heap.size x (cut64 bs) ∧ Below w.heap.size w w' := by
  refine (callsIn_wide (n := 4)).1 ?_
  obtain ⟨va, cap, rfl, hlc, hcm⟩ := hs.shape
  rw [List.length_map] at *
  obtain ⟨sb, so, rfl, hsb, -⟩ := hs.addr (by rw [List.length_map]; exact h0)
  refine callsIn_of_wp_marks Tryd.func57 rfl trivial ?_ rfl
  simp only [Tryd.ntmps57, List.size_toArray, List.length_cons, List.length_nil, Nat.reduceAdd, Nat.reduceSub, Array.replicate_succ, Array.replicate_zero, List.push_toArray, List.append_toArray, List.nil_append, List.cons_append]
  have HS := Lib.hid hs
  clear hs
  gi_wp2_with (refine ⟨trivial, ?_⟩; gi_at_call 82; refine (chunk_in _ _ _ _ _).mono ?_; rintro e w' ⟨rfl, rfl⟩)
  have hs := HS.out
  clear HS
  obtain ⟨W0, hW0⟩ : ∃ W0, (((w.alloc (.cells #[.slice none 0 0] 27)).alloc (.cells #[.slice (some ⟨sb, so, none⟩) bs.length cap] 26)).alloc (.cells #[.int .i64 64] 3)) = W0 := ⟨_, rfl⟩
  have b0 : Boxed W0 w.heap.size 27 (.slice none 0 0) := by rw [← hW0]; exact ((Boxed.new w _ _).alloc _).alloc _
  have b1 : Boxed W0 (w.heap.size + 1) 26 (.slice (some ⟨sb, so, none⟩) bs.length cap) := by
    rw [← hW0]
    have := (Boxed.new (w.alloc (.cells #[.slice none 0 0] 27)) 26 (.slice (some ⟨sb, so, none⟩) bs.length cap)).alloc (.cells #[.int .i64 64] 3)
    simpa using this
  have b2 : Boxed W0 (w.heap.size + 1 + 1) 3 (.int .i64 64) := by
    rw [← hW0]
    have := Boxed.new ((w.alloc (.cells #[.slice none 0 0] 27)).alloc (.cells #[.slice (some ⟨sb, so, none⟩) bs.length cap] 26)) 3 (.int .i64 64)
    simpa using this
  have hB0 : Below w.heap.size w W0 := by rw [← hW0]; exact (((Below.refl _ w).alloc (Nat.le_refl _) _).alloc (by simp) _).alloc (by simp; omega) _
  have hsz : W0.heap.size = w.heap.size + 3 := by rw [← hW0]; simp
  rw [hW0]
  clear hW0
  have hOwn : OwnBx W0.heap.size [] (fun (pre : List Nat) W => (∃ x, Boxed W w.heap.size 27 x ∧ OBs W W0.heap.size x (pre.map (pieceI bs))) ∧ Below w.heap.size w W) := by
    intro pre W W' cs ⟨⟨x, hb, ho⟩, hB⟩ ht hcs _
    have hno : ∀ k ∈ cs, ∃ o : Obj, W.heap[k]? = some o ∧ o.isCells = false := fun k hk => by
      rcases hcs k hk with h | h
      · simp at h
      · exact h.2
    refine ⟨⟨x, ht.heap hb (fun hm => ?_), ho.only ht.only (fun g hg cur => ?_)⟩, ht.toBelow hB hB.size (fun k hk => ?_)⟩
    · obtain ⟨o, h1, h2⟩ := hno _ hm
      rw [show W.heap[w.heap.size]? = _ from hb] at h1; cases h1; cases h2
    · obtain ⟨o, h1, h2⟩ := hno _ hg
      refine ⟨fun k => ?_, fun k => ?_⟩ <;> (rw [show W.heap[g]? = _ from k] at h1; cases h1; cases h2)
    · rcases hcs k hk with h | h
      · simp at h
      · omega
  refine wpIn_range_boxes rfl (by omega) (gf := 107) (lb := #[.pointer (some ⟨w.heap.size + 1, 0, none⟩), .pointer (some ⟨w.heap.size + 1 + 1, 0, none⟩)]) rfl trivial (enters_of Tryd.func107 (by kernel_rfl) rfl)
    (chunkRun 3 (by omega) sb so bs.length cap (w.heap.size + 1) (w.heap.size + 1 + 1) h0 hlc hcm hl W0 b1 b2)
    (fun k hk => by simp at hk) (fun h k => h.trans k) ?kn (fun _ => rfl)
    (fun pre W => (∃ x, Boxed W w.heap.size 27 x ∧ OBs W W0.heap.size x (pre.map (pieceI bs))) ∧ Below w.heap.size w W)
    (fun _ _ _ => False)
    hOwn
    (fun _ _ _ _ _ h _ _ _ => h)
    ⟨⟨_, b0, OBs.nil _ _⟩, hB0⟩
    (fun k a' W => a' = { tmps := #[.slice (some ⟨sb, so, none⟩) bs.length cap, undef, .slice none 0 0, .pointer (some ⟨w.heap.size, 0, none⟩), .slice (some ⟨sb, so + 64 * k, none⟩) (min 64 (bs.length - 64 * k)) (min 64 (bs.length - 64 * k)), undef, .slice (some ⟨sb, so, none⟩) bs.length cap, .func (.func 107) #[] #[.pointer (some ⟨w.heap.size + 1, 0, none⟩), .pointer (some ⟨w.heap.size + 1 + 1, 0, none⟩)], .slice (some ⟨sb, so + 64 * k, none⟩) (min 64 (bs.length - 64 * k)) (min 64 (bs.length - 64 * k)), undef, undef, undef, undef, undef, undef, undef, undef, undef], defers := [] })
    ?ax ?assign ?body ?done ?stop
  case kn =>
    intro W W' cs ht hle hcs
    refine KeepB.of_turns ht fun k hk hm => ?_
    have h1 := hcs k hm
    simp only [List.mem_cons, List.not_mem_nil, or_false] at hk
    rcases hk with rfl | rfl <;> omega
  case ax =>
    rintro ⟨x, a'⟩ W W' cs ha ht hcs _
    exact ha
  case assign =>
    rintro l pre x W K hi hle hK
    rw [show encK sb so bs.length x = #[.slice (some ⟨sb, so + 64 * x, none⟩) (min 64 (bs.length - 64 * x)) (min 64 (bs.length - 64 * x))] from rfl]
    generalize min 64 (bs.length - 64 * x) = e at *
    have hK2 := hK _ _ rfl hi ((KeepsOthers.refl _).from _) (KeepB.refl _ _)
    clear hK hOwn hi
    gi_wp2
    exact hK2
  case body =>
    rintro l pre x a' W ⟨⟨v, hv, hrow⟩, hB⟩ rfl hle hpre
    have hk : 64 * x < bs.length := by
      have hm : x ∈ List.range (parts64 bs.length) := hpre.subset (by simp)
      rw [List.mem_range] at hm
      unfold parts64 at hm
      omega
    have hpl : (pre.map (pieceI bs)).length + 1 ≤ 5000000000000 := by
      have h1 := hpre.length_le
      simp at h1
      unfold parts64 at h1
      simp; omega
    have hPI : padTo 64 ((bs.drop (64 * x)).take 64) = pieceI bs x := padTo_take 64 _
    have hPM : (pre ++ [x]).map (pieceI bs) = pre.map (pieceI bs) ++ [pieceI bs x] := by simp
    have hsp := piece_sl (hs.below hB (Nat.le_refl _)) hk
    have hPL := pieceI_len bs x
    have hbA : Below W.heap.size W (W.alloc (.cells zer64 5)) := (Below.refl _ _).alloc (Nat.le_refl _) _
    have kA : Blk (W.alloc (.cells zer64 5)) W.heap.size 5 (Array.replicate 64 (Value.int .u8 0)) := Blk.new W 5 zer64
    have hspA := hsp.below hbA (Nat.le_refl _)
    have HPM := Lib.hid hPM
    have HPI := Lib.hid hPI
    have HPL := Lib.hid hPL
    have HPP := Lib.hid hpl
    have HV := Lib.hid hv
    have HR := Lib.hid hrow
    have HB := Lib.hid hB
    have HBA := Lib.hid hbA
    have HKA := Lib.hid kA
    have HSP := Lib.hid hspA
    have HSZ := Lib.hid hsz
    have HLE := Lib.hid hle
    have hmk := run_make64
    generalize pieceI bs x = PX at *
    generalize pre.map (pieceI bs) = PR at *
    generalize min 64 (bs.length - 64 * x) = e at *
    clear hOwn hB0 hs hv hrow hB hpl hpre b0 b1 b2 hsz hle hPI hPM hsp hPL hbA kA hspA hk
    gi_wp2_with (first
       | (gi_at_builtin; refine wpListIn_of_step rfl (fun c h => by cases h) fun K hK => step_append_ob rfl (.tmp 13) (.tmp 15) rfl W0.heap.size v PR rfl (HR1.out.below HBL.out) w1.heap.size 1 rfl (.slice (some ⟨W.heap.size, 0, none⟩) 64 64) HCL.out PX (HOB.out.below HBL.out) HPP.out HBS.out fun v' w2 hO2 hb2 hg2 => hK _ _ ?_; obtain ⟨g', c', rfl⟩ := hO2.succ (by simp); have HW2 := Lib.hid (obox_append ((HBL.out.block _ HV1.out.lt).trans HV1.out) (HR1.out.below HBL.out) hO2 hg2); have hc2 := HW2.out.1.cell; have hf2 := HW2.out.1.frozen; clear hO2 hb2 hg2)
       | (refine wpListIn_of_step rfl (fun c h => by cases h) fun K hK => step_copy_pad rfl (.tmp 10) (.tmp 11) rfl W.heap.size 64 64 rfl (.slice (some ⟨sb, so + 64 * x, none⟩) e e) _ rfl HSP.out HKA.out W.heap.size W HBA.out (Nat.le_refl _) fun w1 kk kC hbC => hK _ _ ?_; have HBC := Lib.hid hbC; have HV1 := Lib.hid (show Boxed w1 w.heap.size 27 v from (hbC.block _ HV.out.lt).trans HV.out); have hc1 := HV1.out.cell; have hf1 := HV1.out.frozen; have HR1 := Lib.hid (HR.out.below hbC); have HKC := Lib.hid kC.out; rw [HPI.out] at HKC; have HOB := Lib.hid (OB.ofBlk (base := W0.heap.size) HKC.out HLE.out (by rw [HPL.out]; omega)); rw [HPL.out] at HOB; have HBL := Lib.hid (show Below w1.heap.size w1 (w1.alloc (.cells #[.slice (some ⟨W.heap.size, 0, none⟩) 64 64] 26)) from (Below.refl _ _).alloc (Nat.le_refl _) _); have HCL := Lib.hid ((Blk.new w1 26 #[.slice (some ⟨W.heap.size, 0, none⟩) 64 64]).cell 0); have HBS := Lib.hid (show W0.heap.size ≤ (w1.alloc (.cells #[.slice (some ⟨W.heap.size, 0, none⟩) 64 64] 26)).heap.size from Nat.le_trans HLE.out (Nat.le_trans hbC.size HBL.out.size)); clear hbC kC))
    obtain ⟨-, hbx, hob, hko, htu, hbg⟩ := HW2.out
    rw [List.length_append, List.length_singleton] at hbx hob hko htu
    have hT1 := ((Turns.of_below (w.heap.size :: v.ownBlock.toList) HBC.out).trans (Turns.of_below (w.heap.size :: v.ownBlock.toList) HBL.out)).trans htu
    have hK1 := ((keepsO_below HBC.out).trans (keepsO_below HBL.out)).trans hko
    have hsz := HSZ.out
    refine ⟨hK1.from _, KeepB.of_turns hT1 (fun k hk hm => ?_), ⟨_, hbx, by rw [HPM.out]; exact hob⟩, hT1.toBelow HB.out HB.out.size (fun k hk => ?_)⟩
    · have h1 : k = w.heap.size ∨ W0.heap.size ≤ k := by
        rcases List.mem_cons.1 hm with h | h
        · exact .inl h
        · exact .inr (hbg k h)
      simp only [List.mem_cons, List.not_mem_nil, or_false] at hk
      omega
    · rcases List.mem_cons.1 hk with rfl | hk
      · exact Nat.le_refl _
      · have h1 := hbg k hk; omega
  case done =>
    rintro D W hD ⟨⟨v, hv, hrow⟩, hB⟩ hK
    have hc := hv.cell
    have HR := Lib.hid hrow
    have HB := Lib.hid hB
    have HK := Lib.hid hK
    clear hOwn hB0 hs hv hrow hB b0 b1 b2
    gi_wp2
    refine ⟨by simp, .inl ⟨_, _, rfl, run_takeDeferred HK.out, ?_⟩⟩
    refine ⟨_, results_tmp rfl _ _ _, v, rfl, ?_, ?_⟩
    · refine (HR.out.only (Turns.putObj W D _).only (fun g hg cur => ?_)).base (by omega)
      obtain rfl : g = D := by simpa using hg
      have hD2 := HK.out
      constructor <;> (intro k; rw [show W.heap[g]? = _ from k] at hD2; cases hD2)
    · exact HB.out.trans ⟨rfl, rfl, rfl, by simp, fun k hk => World.putObj_heap_other (by omega)⟩
  case stop =>
    rintro D c pre W _ _ h _
    exact h.elim

end Go.Proofs.YtgfkejecigefbaaDoor
