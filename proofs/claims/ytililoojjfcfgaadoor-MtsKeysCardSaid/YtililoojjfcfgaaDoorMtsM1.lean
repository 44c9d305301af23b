/- Trees of signing keys: what their levels are, and lists of lists of texts that a call makes. Conditions: none. Trees of signing keys: what may be, the hash of two. Trees of signing keys: all hashes are reckoned. -/
import Derived.Test.YtililoojjfcfgaaDoorWotsM
import Derived.Test.YtililoojjfcfgaaDoorWotsS
import Derived.Test.YtililoojjfcfgaaDoorOwnT
import Derived.Test.YtililoojjfcfgaaDoorReaderF
import Derived.Test.YtililoojjfcfgaaDoorCodecR
import Derived.Test.YtililoojjfcfgaaDoorWotsN
import Derived.Deep.RegionHeld3
import Derived.Deep.Cut
namespace Go.Proofs.YtililoojjfcfgaaDoor
open Go.RowKit
set_option linter.unusedVariables false

/-- The hash of two of a level. -/
def pairT (size l p : Int) (x y : List Int) : List Int := hashT size 9 [numI l, numI p, x, y]
theorem pairT_isB (size l p : Int) (x y : List Int) : IsB (pairT size l p x y) := hashT_isB' _ _ _
theorem pairT_len (size l p : Int) (x y : List Int) : (pairT size l p x y).length ≤ 32 := hashT_len _ _ _
theorem keyL_len (size : Int) (seed : List Int) (idx : Int) : (keyL size seed idx).length ≤ 32 := by
  unfold keyL; split
  · exact hashT_len _ _ _
  · simp
/-- The p-th of the level above. -/
def upA (size l : Int) (L : List (List Int)) (p : Nat) : List Int := pairT size l p (L.getD (2 * p) []) (L.getD (2 * p + 1) [])
def upI (size l : Int) (L : List (List Int)) (n : Nat) : List (List Int) := (List.range n).map (upA size l L)
def botI (size : Int) (seed : List Int) (n : Nat) : List (List Int) := (List.range n).map fun i : Nat => keyL size seed i
def lvI (size : Int) (seed : List Int) (h : Nat) : Nat → List (List Int)
  | 0 => botI size seed (2 ^ h)
  | l + 1 => upI size (l + 1 : Nat) (lvI size seed h l) (2 ^ (h - (l + 1)))
def lvsI (size : Int) (seed : List Int) (h n : Nat) : List (List (List Int)) := (List.range n).map (lvI size seed h)

theorem botI_succ (size : Int) (seed : List Int) (n : Nat) : botI size seed (n + 1) = botI size seed n ++ [keyL size seed n] := by
  simp [botI, List.range_succ]
theorem upI_succ (size l : Int) (L : List (List Int)) (n : Nat) : upI size l L (n + 1) = upI size l L n ++ [upA size l L n] := by
  simp [upI, List.range_succ]
theorem lvsI_succ (size : Int) (seed : List Int) (h n : Nat) : lvsI size seed h (n + 1) = lvsI size seed h n ++ [lvI size seed h n] := by
  simp [lvsI, List.range_succ]
theorem botI_len (size : Int) (seed : List Int) (n : Nat) : (botI size seed n).length = n := by simp [botI]
theorem upI_len (size l : Int) (L : List (List Int)) (n : Nat) : (upI size l L n).length = n := by simp [upI]
theorem lvsI_len (size : Int) (seed : List Int) (h n : Nat) : (lvsI size seed h n).length = n := by simp [lvsI]
theorem lvI_len (size : Int) (seed : List Int) (h : Nat) : ∀ l, (lvI size seed h l).length = 2 ^ (h - l)
  | 0 => by rw [lvI, botI_len]; rfl
  | l + 1 => by rw [lvI, upI_len]
theorem lvsI_get (size : Int) (seed : List Int) (h n l : Nat) (hl : l < n) : (lvsI size seed h n)[l]? = some (lvI size seed h l) := by
  simp [lvsI, hl]
theorem two_half (h l : Nat) (hl : l < h) : 2 ^ (h - l) = 2 * 2 ^ (h - (l + 1)) := by
  rw [show h - l = (h - (l + 1)) + 1 by omega, Nat.pow_succ]; omega
theorem lvI_isB (size : Int) (seed : List Int) (h : Nat) : ∀ l, ∀ p ∈ lvI size seed h l, IsB p
  | 0 => by
    intro p hp
    simp only [lvI, botI, List.mem_map] at hp
    obtain ⟨i, _, rfl⟩ := hp
    exact keyL_isB _ _ _
  | l + 1 => by
    intro p hp
    simp only [lvI, upI, List.mem_map] at hp
    obtain ⟨i, _, rfl⟩ := hp
    exact pairT_isB _ _ _ _ _
theorem lvI_short (size : Int) (seed : List Int) (h : Nat) : ∀ l, ∀ p ∈ lvI size seed h l, p.length ≤ 32
  | 0 => by
    intro p hp
    simp only [lvI, botI, List.mem_map] at hp
    obtain ⟨i, _, rfl⟩ := hp
    exact keyL_len _ _ _
  | l + 1 => by
    intro p hp
    simp only [lvI, upI, List.mem_map] at hp
    obtain ⟨i, _, rfl⟩ := hp
    exact pairT_len _ _ _ _ _
theorem getD_mem {l : List (List Int)} {k : Nat} (hk : k < l.length) : l.getD k [] ∈ l := by
  rw [List.getD_eq_getElem?_getD, List.getElem?_eq_getElem hk]; exact List.getElem_mem _

theorem OSls.base {w : World} {b0 b1 : Nat} {v : Value} {pss : List (List Int)} (h : OSls w b1 v pss) (hb : b0 ≤ b1) : OSls w b0 v pss := by
  obtain ⟨vs, ⟨h1, h2⟩, h3⟩ := h
  exact ⟨vs, ⟨ownsRow_base h1 hb, h2⟩, h3⟩
/-- A list of texts stays where a row of another type grows. -/
theorem OSls.keepR {w w' : World} {base : Nat} {v : Value} {pss : List (List Int)} (h : OSls w base v pss) {b : Nat} {e : TypeId} {size : Nat} {r : Value} {n : Nat} {xs : List Value} (hown : OwnK w b e size r n xs) (hne : e ≠ 22) (hg : w.grownBy w' r.ownBlock) : OSls w' base v pss := by
  obtain ⟨vs, h1, h2⟩ := h
  have hn : ∀ g', v.ownBlock = some g' → some g' ≠ r.ownBlock := by
    intro g' hg' he
    obtain ⟨c1, k1, _⟩ := h1.2 g' hg'
    obtain ⟨c2, k2, _⟩ := hown.2 g' he.symm
    rw [k1] at k2
    injection k2 with k2
    injection k2 with _ k2
    exact hne k2.symm
  have hb : ∀ g', v.ownBlock = some g' → w'.heap[g']? = w.heap[g']? := fun g' hg' => hg.block g' (h1.1.lt g' hg').2 (hn g' hg')
  refine ⟨vs, ⟨⟨h1.1.1, ?_⟩, fun g' hg' => ?_⟩, h2.keepK hown hg⟩
  · rcases h1.1.2 with hx | ⟨g', cap, cur, rfl, hbg, hh, hr⟩
    · exact Or.inl hx
    · exact Or.inr ⟨g', cap, cur, rfl, hbg, (hb g' rfl).trans hh, hr⟩
  · obtain ⟨cur, hc1, hc2⟩ := h1.2 g' hg'
    exact ⟨cur, (hb g' hg').trans hc1, hc2⟩

def LvAll (w : World) : List Value → List (List (List Int)) → Prop
  | [], [] => True
  | u :: us, l :: ls => OSls w 0 u l ∧ LvAll w us ls
  | _, _ => False
theorem LvAll.len {w : World} : ∀ {us : List Value} {ls : List (List (List Int))}, LvAll w us ls → us.length = ls.length
  | [], [], _ => rfl
  | [], _ :: _, h => h.elim
  | _ :: _, [], h => h.elim
  | _ :: _, _ :: _, h => by simp [LvAll.len h.2]
theorem LvAll.at {w : World} : ∀ {us : List Value} {ls : List (List (List Int))}, LvAll w us ls → ∀ (i : Nat) (u : Value) (l : List (List Int)), us[i]? = some u → ls[i]? = some l → OSls w 0 u l
  | [], [], _, i, u, l, hu, _ => by simp at hu
  | [], _ :: _, h, _, _, _, _, _ => h.elim
  | _ :: _, [], h, _, _, _, _, _ => h.elim
  | u0 :: us, l0 :: ls, h, 0, u, l, hu, hl => by
    simp at hu hl; subst hu hl; exact h.1
  | u0 :: us, l0 :: ls, h, i + 1, u, l, hu, hl => LvAll.at h.2 i u l (by simpa using hu) (by simpa using hl)
theorem LvAll.mono {w w' : World} (f : ∀ u l, OSls w 0 u l → OSls w' 0 u l) : ∀ {us : List Value} {ls : List (List (List Int))}, LvAll w us ls → LvAll w' us ls
  | [], [], _ => trivial
  | [], _ :: _, h => h.elim
  | _ :: _, [], h => h.elim
  | _ :: _, _ :: _, h => ⟨f _ _ h.1, LvAll.mono f h.2⟩
theorem LvAll.snoc {w : World} {u : Value} {l : List (List Int)} (hu : OSls w 0 u l) : ∀ {us : List Value} {ls : List (List (List Int))}, LvAll w us ls → LvAll w (us ++ [u]) (ls ++ [l])
  | [], [], _ => ⟨hu, trivial⟩
  | [], _ :: _, h => h.elim
  | _ :: _, [], h => h.elim
  | _ :: _, _ :: _, h => ⟨h.1, LvAll.snoc hu h.2⟩

/-- A list of lists of texts that the call makes. -/
def OLv (w : World) (base : Nat) (v : Value) (ll : List (List (List Int))) : Prop := ∃ vs, OwnK w base 23 1 v ll.length vs ∧ LvAll w vs ll
theorem OLv.nil (w : World) (base : Nat) : OLv w base (.slice none 0 0) [] := ⟨[], OwnK.nil _ _ _ _, trivial⟩
theorem OLv.below {w w' : World} {base : Nat} {v : Value} {ll : List (List (List Int))} (h : OLv w base v ll) (hb : Below w.heap.size w w') : OLv w' base v ll := by
  obtain ⟨vs, h1, h2⟩ := h
  exact ⟨vs, h1.below hb (Nat.le_refl _), h2.mono fun u l hu => hu.below hb⟩
theorem OLv.base {w : World} {b0 b1 : Nat} {v : Value} {ll : List (List (List Int))} (h : OLv w b1 v ll) (hb : b0 ≤ b1) : OLv w b0 v ll := by
  obtain ⟨vs, ⟨h1, h2⟩, h3⟩ := h
  exact ⟨vs, ⟨ownsRow_base h1 hb, h2⟩, h3⟩
theorem OLv.val {w : World} {base : Nat} {v : Value} {ll : List (List (List Int))} (h : OLv w base v ll) : ∃ a c, v = .slice a ll.length c := by
  obtain ⟨vs, h1, h2⟩ := h
  obtain ⟨a, c, h3, _⟩ := (Sl.of_owns h1.1).shape
  rw [h2.len] at h3
  exact ⟨a, c, h3⟩
/-- A level of it. -/
theorem OLv.at {w : World} {base : Nat} {a : Option Addr} {n cap : Nat} {ll : List (List (List Int))} (h : OLv w base (.slice a n cap) ll) {k : Nat} {l : List (List Int)} (hk : ll[k]? = some l) :
    ∃ b off u, a = some ⟨b, off, none⟩ ∧ b < w.heap.size ∧ w.cell? ⟨b, off + k, none⟩ = some u ∧ OSls w 0 u l := by
  obtain ⟨vs, h1, h2⟩ := h
  have hkl : k < vs.length := by
    rw [h2.len]
    rcases Nat.lt_or_ge k ll.length with hlt | hge
    · exact hlt
    · rw [List.getElem?_eq_none hge] at hk; cases hk
  obtain ⟨b, off, rfl, hb, hc⟩ := (Sl.of_owns h1.1).addr (by omega)
  have hu : vs[k]? = some vs[k] := List.getElem?_eq_getElem hkl
  exact ⟨b, off, vs[k], rfl, hb, hc k _ hu, h2.at k _ _ hu hk⟩
theorem OSls.keepM {w w' : World} {base : Nat} {v : Value} {pss : List (List Int)} (h : OSls w base v pss) {g : Nat} {t : TypeId} {cs : Array Value} (k : Blk w g t cs) (hne1 : 22 ≠ t) (hcs : ∀ (j : Nat) (n : Int), cs[j]? ≠ some (.int .u8 n)) (hg : w.grownBy w' (some g)) : OSls w' base v pss := by
  obtain ⟨us, k1, k2⟩ := h
  have hn : v.ownBlock ≠ some g := own_blk_ne k1.1 k hne1
  refine ⟨us, ⟨k1.1.kept hg (.inr hn), fun g' hg' => ?_⟩, ?_⟩
  · obtain ⟨cur, hc1, hc2⟩ := k1.2 g' hg'
    exact ⟨cur, (hg.block g' (k1.1.lt g' hg').2 (fun e => hn (by rw [hg', e]))).trans hc1, hc2⟩
  · have key : ∀ {us : List Value} {ps : List (List Int)}, SlAll w us ps → SlAll w' us ps := by
      intro us
      induction us with
      | nil => intro ps h; cases ps with
        | nil => trivial
        | cons _ _ => exact h.elim
      | cons u us ih => intro ps h; cases ps with
        | nil => exact h.elim
        | cons p ps => exact ⟨h.1.keepG k hcs hg, ih h.2⟩
    exact key k2
theorem OLv.keepGk {w w' : World} {base : Nat} {v : Value} {ll : List (List (List Int))} (h : OLv w base v ll) {g : Nat} {t : TypeId} {cs : Array Value} (k : Blk w g t cs) (hne : 23 ≠ t) (hne1 : 22 ≠ t) (hcs : ∀ (j : Nat) (n : Int), cs[j]? ≠ some (.int .u8 n)) (hg : w.grownBy w' (some g)) : OLv w' base v ll := by
  obtain ⟨vs, h1, h2⟩ := h
  have hn : v.ownBlock ≠ some g := own_blk_ne h1.1 k hne
  refine ⟨vs, ⟨h1.1.kept hg (.inr hn), fun g' hg' => ?_⟩, h2.mono fun u l hu => hu.keepM k hne1 hcs hg⟩
  obtain ⟨cur, hc1, hc2⟩ := h1.2 g' hg'
  exact ⟨cur, (hg.block g' (h1.1.lt g' hg').2 (fun e => hn (by rw [hg', e]))).trans hc1, hc2⟩

/-- A literal of one level. -/
theorem OLv.lit {w : World} {base : Nat} {u : Value} {l : List (List Int)} (hu : OSls w 0 u l) (hbase : base ≤ w.heap.size) : OLv (w.alloc (.cells #[u] 23)) base (.slice (some ⟨w.heap.size, 0, none⟩) 1 1) [l] := by
  have h := World.ownsRow_lit (base := base) (e := 23) (size := 1) w #[u] 1 hbase (by simp [maxLen]) (by simp)
  have hb : Below w.heap.size w (w.alloc (.cells #[u] 23)) := (Below.refl _ _).alloc (Nat.le_refl _) _
  refine ⟨[u], ⟨h, fun g hg => ?_⟩, ⟨hu.below hb, trivial⟩⟩
  have : w.heap.size = g := by simpa [Value.ownBlock] using hg
  subst this
  obtain ⟨a, c, rfl⟩ := hu.val
  exact ⟨_, heap_alloc_new w _, fun c hc => by simp at hc; subst hc; exact notB_slice _ _ _⟩

theorem only_below0 {a w w1 : World} {row : Option Nat} (h : a.grownBy w row) (hb : Below a.heap.size w w1) : a.grownBy w1 row :=
  ⟨hb.os.trans h.os, hb.tape.trans h.tape, hb.output.trans h.output, Nat.le_trans h.size hb.size, fun i hi hne => (hb.block i hi).trans (h.block i hi hne)⟩

theorem infoL : (Tryd.prog.info? 23).map (fun i => (i.zero, i.size, i.bytes)) = some (some (.slice none 0 0), 1, 24) := by kernel_rfl

theorem wpList_append_level {w : World} {ops : Array Oper} {rest : List Oper} {o : Oper} {a : Act} {Q : Exit → Act → World → Prop} (hgd : o.guard = none) (s x : Operand)
    (ho : o.op = .call { callee := .builtin .append, args := #[s, x], argTypes := #[38, 38] })
    (base : Nat) (v : Value) (ll : List (List (List Int))) (hs : a.eval s = v) (hown : OLv w base v ll)
    (b cap : Nat) (hx : a.eval x = .slice (some ⟨b, 0, none⟩) 1 cap) (u : Value) (hc : w.cell? ⟨b, 0, none⟩ = some u) (l : List (List Int)) (hu : OSls w 0 u l)
    (h63 : ll.length + 1 ≤ 5000000000000) (hbase : base ≤ w.heap.size)
    (h : ∀ v' w', OLv w' base v' (ll ++ [l]) → Below base w w' → w.grownBy w' v.ownBlock → wpList Tryd.prog ops Q rest (a.put o.dst v') w') : wpList Tryd.prog ops Q (o :: rest) a w := by
  obtain ⟨vs, h1, h2⟩ := hown
  obtain ⟨i0, hi, hz0, hz1, hz2⟩ := info_parts infoL
  obtain ⟨ua, uc, rfl⟩ := hu.val
  obtain ⟨v', w', hrun, hown', hg⟩ := run_append_ownK (P := Tryd.prog) w base 38 o.type 23 i0 (.slice none 0 0) 1 24 Tryd.underlying38 hi hz0 hz1 hz2 rfl (by decide) (by intro c hc; simp [Value.cells] at hc; subst hc; exact notB_slice _ _ _) v ll.length vs h1 ⟨b, 0, none⟩ 1 cap [.slice ua l.length uc] rfl
    (fun j y hj => by
      match j, hj with
      | 0, hj => simp at hj; subst hj; exact hc
      | j + 1, hj => simp at hj) (by simp [Value.oneCell']) (by simp [notB_slice]) (by unfold maxLen; omega) (by omega) hbase
  refine wpList_plain hgd fun K hK => ?_
  unfold Oper.wp
  simp [execOp, ho, resolve, invoke, builtin, hs, hx, hrun, Result.andThen]
  refine hK _ _ (h v' w' ⟨_, by simpa using hown', (h2.mono fun u l hu => hu.keepR h1 (by decide) hg).snoc (hu.keepR h1 (by decide) hg)⟩ ?_ hg)
  exact (Below.refl _ _).grown hg hbase (fun k hk => (h1.1.lt k hk).1)

theorem step_append_textM {w : World} {ops : Array Oper} {o : Oper} {a : Act} {K : Act → World → Prop} {Q : Exit → Act → World → Prop} {E : Prop} (hgd : o.guard = none) (s x : Operand)
    (ho : o.op = .call { callee := .builtin .append, args := #[s, x], argTypes := #[23, 23] })
    (base : Nat) (v : Value) (pss : List (List Int)) (hs : a.eval s = v) (hown : OSls w base v pss)
    (b cap : Nat) (hx : a.eval x = .slice (some ⟨b, 0, none⟩) 1 cap) (u : Value) (hc : w.cell? ⟨b, 0, none⟩ = some u) (p : List Int) (hu : Sl w u (p.map (Value.int .u8)))
    (h63 : pss.length + 1 ≤ 5000000000000) (hbase : base ≤ w.heap.size)
    (h : ∀ v' w', OSls w' base v' (pss ++ [p]) → Below base w w' → w.grownBy w' v.ownBlock → K (a.put o.dst v') w') : if Region.wanted o (yielded ops a.tmps) = true then Oper.wp Tryd.prog o a w K Q else E := by
  have hw : Region.wanted o (yielded ops a.tmps) = true := by simp [Region.wanted, hgd]
  rw [if_pos hw]
  obtain ⟨vs, h1, h2⟩ := hown
  obtain ⟨i0, hi, hz0, hz1, hz2⟩ := info_parts infoT
  obtain ⟨ua, un, uc, rfl⟩ := hu.val
  obtain ⟨v', w', hrun, hown', hg⟩ := run_append_ownK (P := Tryd.prog) w base 23 o.type 22 i0 (.slice none 0 0) 1 24 Tryd.underlying23 hi hz0 hz1 hz2 rfl (by decide) (by intro c hc; simp [Value.cells] at hc; subst hc; exact notB_slice _ _ _) v pss.length vs h1 ⟨b, 0, none⟩ 1 cap [.slice ua un uc] rfl
    (fun j y hj => by
      match j, hj with
      | 0, hj => simp at hj; subst hj; exact hc
      | j + 1, hj => simp at hj) (by simp [Value.oneCell']) (by simp [notB_slice]) (by unfold maxLen; omega) (by omega) hbase
  unfold Oper.wp execOp
  simp only [ho, resolve, invoke, builtin, Sem.run_bind, Sem.run_pure, Result.andThen_ok, List.map_toArray, List.map_cons, List.map_nil, hs, hx, hrun]
  exact h v' w' ⟨_, by simpa using hown', (h2.keepK h1 hg).snoc (hu.keepK h1 hg)⟩ ((Below.refl _ _).grown hg hbase (fun k hk => (h1.1.lt k hk).1)) hg

end Go.Proofs.YtililoojjfcfgaaDoor

namespace Go.Proofs.YtililoojjfcfgaaDoor
open Go.RowKit
set_option linter.unusedVariables false

def mcanB (size h : Int) : Bool := decide (1 ≤ size ∧ size ≤ 32 ∧ 0 ≤ h ∧ h ≤ 8)

theorem mcan_any (size h : Int) (w : World) :
    Calls Tryd.prog 68 #[.int .i64 size, .int .i64 h] w fun e w' => e = .returned (.bool (mcanB size h)) ∧ w = w' := by
  obtain ⟨b, hb⟩ : ∃ b, b = mcanB size h := ⟨_, rfl⟩
  rw [← hb]
  have HB := Lib.hid hb
  clear hb
  by_cases h0 : 1 ≤ size
  · by_cases h1 : size ≤ 32
    · by_cases h2 : 0 ≤ h
      · by_cases h3 : h ≤ 8
        all_goals
          go_enter Tryd.func68, Tryd.ntmps68
          go_wp2
          go_ret
          exact ⟨ret_bool (by rw [HB.out]; unfold mcanB; first | exact (decide_eq_true (by omega)).symm | exact (decide_eq_false (by omega)).symm), rfl⟩
      · go_enter Tryd.func68, Tryd.ntmps68
        go_wp2
        go_ret
        exact ⟨ret_bool (by rw [HB.out]; unfold mcanB; first | exact (decide_eq_true (by omega)).symm | exact (decide_eq_false (by omega)).symm), rfl⟩
    · go_enter Tryd.func68, Tryd.ntmps68
      go_wp2
      go_ret
      exact ⟨ret_bool (by rw [HB.out]; unfold mcanB; first | exact (decide_eq_true (by omega)).symm | exact (decide_eq_false (by omega)).symm), rfl⟩
  · go_enter Tryd.func68, Tryd.ntmps68
    go_wp2
    go_ret
    exact ⟨ret_bool (by rw [HB.out]; unfold mcanB; first | exact (decide_eq_true (by omega)).symm | exact (decide_eq_false (by omega)).symm), rfl⟩

set_option maxHeartbeats 1000000 in
theorem mpair_any (size l p : Int) (v1 v2 : Value) (b1 b2 : List Int) (w : World) (hl0 : -9223372036854775808 ≤ l) (hl1 : l ≤ 9223372036854775807) (hp0 : -9223372036854775808 ≤ p) (hp1 : p ≤ 9223372036854775807) (hB1 : IsB b1) (hB2 : IsB b2) (h1 : Sl w v1 (b1.map (Value.int .u8))) (h2 : Sl w v2 (b2.map (Value.int .u8))) (ht : Tabs w) :
    Calls Tryd.prog 95 #[.int .i64 size, .int .i64 l, .int .i64 p, v1, v2] w fun e w' => ∃ x, e = .returned x ∧ Sl w' x ((pairT size l p b1 b2).map (Value.int .u8)) ∧ Below w.heap.size w w' := by
  obtain ⟨va, vn, vc, rfl⟩ := h1.val
  obtain ⟨ua, un, uc, rfl⟩ := h2.val
  go_enter Tryd.func95, Tryd.ntmps95
  go_wp2_with fail
  refine (number_any l w hl0 hl1).mono ?_
  rintro e w2 ⟨n1, rfl, hn1, hb2⟩
  have h1 := h1.below hb2 (Nat.le_refl _)
  have h2 := h2.below hb2 (Nat.le_refl _)
  have ht := ht.below hb2
  go_wp2_with fail
  refine (number_any p w2 hp0 hp1).mono ?_
  rintro e w3 ⟨n2, rfl, hn2, hb3⟩
  have h1 := h1.below hb3 (Nat.le_refl _)
  have h2 := h2.below hb3 (Nat.le_refl _)
  have hn1 := hn1.below hb3 (Nat.le_refl _)
  have ht := ht.below hb3
  have hb3 := below_trans2 hb2 hb3
  clear hb2
  obtain ⟨a1, l1, c1, rfl⟩ := hn1.val
  obtain ⟨a2, l2, c2, rfl⟩ := hn2.val
  have hL := Sls.litA _ 22 (show SlAll w3 [.slice a1 l1 c1, .slice a2 l2 c2, .slice va vn vc, .slice ua un uc] [numI l, numI p, b1, b2] from ⟨hn1, hn2, h1, h2, trivial⟩) (by simp [maxLen])
  have hbA := hb3.alloc hb3.size (.cells #[.slice a1 l1 c1, .slice a2 l2 c2, .slice va vn vc, .slice ua un uc] 22)
  have htA := ht.below ((Below.refl _ _).alloc (Nat.le_refl _) (.cells #[.slice a1 l1 c1, .slice a2 l2 c2, .slice va vn vc, .slice ua un uc] 22))
  have HH := Lib.hid (hash_any size 9 _ _ _ (by simp) (by decide) (by decide) hL (fun p hp => by
    simp only [List.mem_cons, List.not_mem_nil, or_false] at hp
    rcases hp with rfl | rfl | rfl | rfl
    · exact numI_isB _
    · exact numI_isB _
    · exact hB1
    · exact hB2) htA)
  rw [show hashT size 9 [numI l, numI p, b1, b2] = pairT size l p b1 b2 from rfl] at HH
  clear hL htA ht h1 h2 hn1 hn2 hb3
  go_wp2_with fail
  refine HH.out.mono ?_
  rintro e w5 ⟨y, rfl, hy, hb5⟩
  have hbr := hbA.trans (hb5.mono hbA.size)
  go_wp2
  go_ret
  exact ⟨_, rfl, hy, hbr⟩

set_option maxHeartbeats 1000000 in
theorem refMpair_any (size l p : Int) (v1 v2 : Value) (b1 b2 : List Int) (w : World) (hl0 : -9223372036854775808 ≤ l) (hl1 : l ≤ 9223372036854775807) (hp0 : -9223372036854775808 ≤ p) (hp1 : p ≤ 9223372036854775807) (hB1 : IsB b1) (hB2 : IsB b2) (hn1 : b1.length ≤ 140737488351232) (hn2 : b2.length ≤ 140737488351232) (h1 : Sl w v1 (b1.map (Value.int .u8))) (h2 : Sl w v2 (b2.map (Value.int .u8))) :
    Calls Tryd.prog 72 #[.int .i64 size, .int .i64 l, .int .i64 p, v1, v2] w fun e w' => ∃ x, e = .returned x ∧ Sl w' x ((pairT size l p b1 b2).map (Value.int .u8)) ∧ Below w.heap.size w w' := by
  have ht : True := trivial
  obtain ⟨va, vn, vc, rfl⟩ := h1.val
  obtain ⟨ua, un, uc, rfl⟩ := h2.val
  go_enter Tryd.func72, Tryd.ntmps72
  go_wp2_with fail
  refine (refNumber_any l w hl0 hl1).mono ?_
  rintro e w2 ⟨n1, rfl, hn1, hb2⟩
  have h1 := h1.below hb2 (Nat.le_refl _)
  have h2 := h2.below hb2 (Nat.le_refl _)
  go_wp2_with fail
  refine (refNumber_any p w2 hp0 hp1).mono ?_
  rintro e w3 ⟨n2, rfl, hn2, hb3⟩
  have h1 := h1.below hb3 (Nat.le_refl _)
  have h2 := h2.below hb3 (Nat.le_refl _)
  have hn1 := hn1.below hb3 (Nat.le_refl _)
  have hb3 := below_trans2 hb2 hb3
  clear hb2
  obtain ⟨a1, l1, c1, rfl⟩ := hn1.val
  obtain ⟨a2, l2, c2, rfl⟩ := hn2.val
  have hL := Sls.litA _ 22 (show SlAll w3 [.slice a1 l1 c1, .slice a2 l2 c2, .slice va vn vc, .slice ua un uc] [numI l, numI p, b1, b2] from ⟨hn1, hn2, h1, h2, trivial⟩) (by simp [maxLen])
  have hbA := hb3.alloc hb3.size (.cells #[.slice a1 l1 c1, .slice a2 l2 c2, .slice va vn vc, .slice ua un uc] 22)
  have HH := Lib.hid (refHash_any size 9 _ _ _ (by simp) (by decide) (by decide) hL (fun p hp => by
    simp only [List.mem_cons, List.not_mem_nil, or_false] at hp
    rcases hp with rfl | rfl | rfl | rfl
    · exact numI_isB _
    · exact numI_isB _
    · exact hB1
    · exact hB2))
  rw [show hashT size 9 [numI l, numI p, b1, b2] = pairT size l p b1 b2 from rfl] at HH
  clear hL ht h1 h2 hn1 hn2 hb3
  go_wp2_with fail
  refine HH.out.mono ?_
  rintro e w5 ⟨y, rfl, hy, hb5⟩
  have hbr := hbA.trans (hb5.mono hbA.size)
  go_wp2
  go_ret
  exact ⟨_, rfl, hy, hbr⟩

end Go.Proofs.YtililoojjfcfgaaDoor

namespace Go.Proofs.YtililoojjfcfgaaDoor
open Go.RowKit
set_option linter.unusedVariables false

def isSlV (v : Value) : Prop := ∃ a n c, v = .slice a n c
/-- What the cells of some keys are. -/
abbrev keyCells (n h : Nat) (sv : Value) (d m : Int) (lv : Value) : Array Value := #[.int .i64 n, .int .i64 h, sv, .int .u32 d, .int .i32 m, .int .u32 0, lv]
theorem keys_noB {n h : Nat} {sv lv : Value} {d m : Int} (h1 : isSlV sv) (h2 : isSlV lv) : ∀ (j : Nat) (x : Int), (keyCells n h sv d m lv)[j]? ≠ some (.int .u8 x) := by
  obtain ⟨_, _, _, rfl⟩ := h1
  obtain ⟨_, _, _, rfl⟩ := h2
  intro j x e
  match j, e with
  | 0, e => simp at e
  | 1, e => simp at e
  | 2, e => simp at e
  | 3, e => simp at e
  | 4, e => simp at e
  | 5, e => simp at e
  | 6, e => simp at e
  | j + 7, e => simp at e
theorem Tabs.keepG {w w' : World} (h : Tabs w) {g : Nat} {t : TypeId} {cs : Array Value} (k : Blk w g t cs) {n : Int} (h0 : cs[0]? = some (.int .i64 n)) (hg : w.grownBy w' (some g)) : Tabs w' := by
  have n0 : 2 ≠ g := by
    rintro rfl
    have := h.first 0 (by omega)
    rw [k.cell, h0] at this
    injection this with this
    injection this with this _
    cases this
  have n1 : 3 ≠ g := by
    rintro rfl
    have := h.added 0 (by omega)
    rw [k.cell, h0] at this
    injection this with this
    injection this with this _
    cases this
  exact ⟨Nat.lt_of_lt_of_le h.lt0 hg.size, Nat.lt_of_lt_of_le h.lt1 hg.size, fun j hj => (hg.cell_far ⟨_, j, none⟩ h.lt0 (by simpa using n0)).trans (h.first j hj), fun j hj => (hg.cell_far ⟨_, j, none⟩ h.lt1 (by simpa using n1)).trans (h.added j hj)⟩

theorem set_onlyG (w : World) (g i : Nat) (u : Value) : w.grownBy (w.setCell ⟨g, i, none⟩ u) (some g) := only_setCell (World.grownBy.refl w (some g)) (Or.inl rfl) u
theorem OSls.get {w : World} {base : Nat} {a : Option Addr} {m cap : Nat} {pss : List (List Int)} (h : OSls w base (.slice a m cap) pss) {k : Nat} (hk : k < pss.length) :
    ∃ b off u, a = some ⟨b, off, none⟩ ∧ b < w.heap.size ∧ w.cell? ⟨b, off + k, none⟩ = some u ∧ Sl w u ((pss.getD k []).map (Value.int .u8)) := by
  obtain ⟨vs, h1, h2⟩ := h
  have hkl : k < vs.length := by rw [h2.len]; exact hk
  obtain ⟨b, off, rfl, hb, hc⟩ := (Sl.of_owns h1.1).addr (by omega)
  have hu : vs[k]? = some vs[k] := List.getElem?_eq_getElem hkl
  refine ⟨b, off, vs[k], rfl, hb, hc k _ hu, ?_⟩
  rw [List.getD_eq_getElem?_getD, List.getElem?_eq_getElem hk]
  exact h2.at k _ _ hu (List.getElem?_eq_getElem hk)

set_option maxRecDepth 100000 in
set_option maxHeartbeats 4000000 in
theorem build_any (n h : Nat) (g : Nat) (seed : List Int) (sv : Value) (w : World) (hn : n ≤ 32) (hh : h ≤ 8) (hB : IsB seed) (hk : Blk w g 82 (keyCells n h sv 0 1 (.slice none 0 0))) (hs : Sl w sv (seed.map (Value.int .u8))) (ht : Tabs w) :
    Calls Tryd.prog 125 #[.pointer (some ⟨g, 0, none⟩)] w fun e w' => e = .returned (.tuple #[]) ∧ ∃ lv, Blk w' g 82 (keyCells n h sv 0 1 lv) ∧ OLv w' 0 lv (lvsI n seed h (h + 1)) ∧ w.grownBy w' (some g) := by
  obtain ⟨va, vn, vc, rfl⟩ := hs.val
  obtain ⟨H, hH⟩ : ∃ H : Nat, H = 2 ^ h := ⟨_, rfl⟩
  have hH1 : 1 ≤ H ∧ H ≤ 256 := by rw [hH]; exact ⟨Nat.one_le_two_pow, Nat.pow_le_pow_right (by omega) hh⟩
  have hW : wrap64 ((2 : Int) ^ h) = (H : Int) := by
    rw [show ((2 : Int) ^ h) = ((2 ^ h : Nat) : Int) by simp, ← hH]; unfold wrap64; omega
  have HH := Lib.hid hH
  clear hH
  have c0 := hk.cell 0
  have c1 := hk.cell 1
  have c2 := hk.cell 2
  have c6 := hk.cell 6
  have f6 := hk.frozen 6
  simp [keyCells] at c0 c1 c2 c6
  have HS := Lib.hid (fun w' (q : Below w.heap.size w w') => hs.below q (Nat.le_refl _))
  have HT := Lib.hid (fun w' (q : Below w.heap.size w w') => ht.below q)
  have HK := Lib.hid (fun w' (q : Below w.heap.size w w') => hk.belowS q)
  have HTW := Lib.hid ht
  have HK0 := Lib.hid hk
  have HSW := Lib.hid hs
  have HNB := Lib.hid (fun (lv : Value) (q : isSlV lv) => keys_noB (n := n) (h := h) (sv := .slice va vn vc) (d := 0) (m := 1) (lv := lv) ⟨_, _, _, rfl⟩ q)
  clear hk hs ht
  go_enter Tryd.func125, Tryd.ntmps125
  go_wp2
  rw [hW]
  go_loopw [2, 14] (fun l i wr => ∃ (k : Nat) (lv : Value), lv = l ∧ k ≤ H ∧ i = .int .i64 k ∧ OSls wr w.heap.size lv (botI n seed k) ∧ Below w.heap.size w wr) (fun _ i _ => H - (intOf i).toNat)
  case atStart => exact ⟨0, _, rfl, by omega, rfl, OSls.nil _ _, Below.refl _ _⟩
  case round =>
    obtain ⟨k, lv, rfl, hkb, rfl, hO, hbr⟩ := hrel
    have kr := HK.out _ hbr
    have c0 : wr.cell? ⟨g, 0, none⟩ = some (.int .i64 n) := kr.cell 0
    have c2 : wr.cell? ⟨g, 2, none⟩ = some (.slice va vn vc) := kr.cell 2
    obtain ⟨la, lc, rfl⟩ := hO.val
    rw [botI_len] at hO ⊢
    by_cases hlt : k < H
    · have hkI : (k : Int) < (H : Int) := by omega
      have HKY := Lib.hid (fun w' (q : Below wr.heap.size wr w') => key_any (n : Int) (.slice va vn vc) seed k w' (by omega) (by omega) hB ((HS.out _ hbr).below q (Nat.le_refl _)) ((HT.out _ hbr).below q))
      have HKR := Lib.hid (fun w' (q : Below wr.heap.size wr w') => show w'.cell? ⟨g, 0, none⟩ = some (.int .i64 n) ∧ w'.cell? ⟨g, 2, none⟩ = some (.slice va vn vc) from ⟨(kr.belowS q).cell 0, (kr.belowS q).cell 2⟩)
      have hG := Lib.hid (HKR.out _ (Below.refl _ _))
      have HO := Lib.hid hO
      have HBR := Lib.hid hbr
      clear kr c0 c2 hO hbr
      go_wp2
      go_region_held3 (fun w' => w'.cell? ⟨g, 0, none⟩ = some (.int .i64 n) ∧ w'.cell? ⟨g, 2, none⟩ = some (.slice va vn vc)) (exact hG.out) (first | (go_at_call 154; refine (HKY.out _ (by first | exact Below.refl _ _ | exact (Below.refl _ _).drew)).mono ?_; rintro e w2 ⟨x2, rfl, hx2, hb2⟩; have hb2 : Below wr.heap.size wr w2 := ⟨hb2.os, hb2.tape, hb2.output, hb2.size, hb2.block⟩; have hG := Lib.hid (HKR.out _ hb2)))
      have hbr := HBR.out
      have hO := HO.out.below hb2
      have hbr := hbr.trans (hb2.mono hbr.size)
      obtain ⟨a2, l2, c2, rfl⟩ := hx2.val
      have hbA : Below w2.heap.size w2 (w2.alloc (.cells #[.slice a2 l2 c2] 22)) := (Below.refl _ _).alloc (Nat.le_refl _) _
      have HLN := Lib.hid (show (botI (n : Int) seed k).length + 1 ≤ 5000000000000 by rw [botI_len]; omega)
      have HSN := Lib.hid (botI_succ (n : Int) seed k)
      have hO := hO.below hbA
      have hx2 := hx2.below hbA (Nat.le_refl _)
      have hbr := hbr.trans (hbA.mono hbr.size)
      have hc2 := (Blk.new w2 22 #[.slice a2 l2 c2]).cell 0
      clear hb2 hbA hG HKR HKY
      go_wp2_with (at_builtin; refine wpList_append_text rfl _ _ rfl w.heap.size _ _ rfl hO w2.heap.size 1 rfl (.slice a2 l2 c2) hc2 _ hx2 HLN.out hbr.size ?_)
      intro l5 w5 hO5 hb5 hg5
      have hbr := hbr.trans hb5
      clear hg5 hb5 hO hx2 hc2
      go_wp2
      go_roundw
      case rel => exact ⟨k + 1, l5, rfl, by omega, by go_num, by rw [HSN.out]; exact hO5, hbr⟩
      case measure => simp [intOf]; omega
    · obtain rfl : k = H := by omega
      have hkI : ¬ (k : Int) < (k : Int) := by omega
      have hbA : Below wr.heap.size wr (wr.alloc (.cells #[.slice la k lc] 23)) := (Below.refl _ _).alloc (Nat.le_refl _) _
      have kA := kr.belowS hbA
      have cA : (wr.alloc (.cells #[.slice la k lc] 23)).cell? ⟨g, 6, none⟩ = some (.slice none 0 0) := kA.cell 6
      have fA : (wr.alloc (.cells #[.slice la k lc] 23)).frozen? ⟨g, 6, none⟩ = false := kA.frozen 6
      have hW0 := OLv.lit (base := w.heap.size) (hO.base (Nat.zero_le _)) hbr.size
      have hOA := (hO.below hbA).base (Nat.zero_le _)
      have gS := set_onlyG (wr.alloc (.cells #[.slice la k lc] 23)) g 6 (.slice (some ⟨wr.heap.size, 0, none⟩) 1 1)
      have nb0 := HNB.out (.slice none 0 0) ⟨_, _, _, rfl⟩
      have kS := kA.set_ 6 (.slice (some ⟨wr.heap.size, 0, none⟩) 1 1)
      have hWS := hW0.keepGk kA (by decide) (by decide) nb0 gS
      have hOS := OSls.keepM hOA kA (by decide) nb0 gS
      have hGS : w.grownBy ((wr.alloc (.cells #[.slice la k lc] 23)).setCell ⟨g, 6, none⟩ (.slice (some ⟨wr.heap.size, 0, none⟩) 1 1)) (some g) := only_setCell (only_below (only_of_below hbr _) hbA) (Or.inl rfl) _
      rw [show botI (n : Int) seed k = lvI n seed h 0 by rw [HH.out]; rfl] at hOS hWS
      clear hW0 hOA gS nb0 hO hbr kr
      go_wp2
      generalize ((wr.alloc (.cells #[.slice la k lc] 23)).setCell ⟨g, 6, none⟩ (.slice (some ⟨wr.heap.size, 0, none⟩) 1 1)) = wx at *
      clear kA cA fA hbA
      clear c0 c2
      go_loopw [2, 6] (fun lx ix wy => ∃ (j : Nat) (lv vv : Value), lv = lx ∧ j ≤ h ∧ ix = .int .i64 ((j : Int) + 1) ∧ OSls wy 0 lv (lvI n seed h j) ∧ Blk wy g 82 (keyCells n h (.slice va vn vc) 0 1 vv) ∧ OLv wy w.heap.size vv (lvsI n seed h (j + 1)) ∧ w.grownBy wy (some g)) (fun _ i _ => 10 - (intOf i).toNat)
      case atStart => exact ⟨0, _, _, rfl, by omega, rfl, hOS, kS, hWS, hGS⟩
      case round =>
        clear hOS kS hWS hGS
        obtain ⟨j, lv, vv, rfl, hj, rfl, hO, kr, hV, hgr⟩ := hrel
        generalize wr = wo at *
        have c1 : wo.cell? ⟨g, 1, none⟩ = some (.int .i64 h) := kr.cell 1
        obtain ⟨la, lc, rfl⟩ := hO.val
        by_cases hlt : j < h
        · obtain ⟨P, hP⟩ : ∃ P : Nat, P = 2 ^ (h - (j + 1)) := ⟨_, rfl⟩
          have hPb : 1 ≤ P ∧ P ≤ 256 := by rw [hP]; exact ⟨Nat.one_le_two_pow, Nat.le_trans (Nat.pow_le_pow_right (by omega) (show h - (j + 1) ≤ 8 by omega)) (by decide)⟩
          have HLE := Lib.hid (show (lvI (n : Int) seed h j).length = 2 * P by rw [lvI_len, two_half h j hlt, ← hP])
          have HUP := Lib.hid (show upI (n : Int) ((j + 1 : Nat) : Int) (lvI (n : Int) seed h j) P = lvI (n : Int) seed h (j + 1) by rw [lvI, hP])
          have HLB := Lib.hid (lvI_isB (n : Int) seed h j)
          rw [HLE.out] at hO ⊢
          have HLV := Lib.hid (show lvsI (n : Int) seed h (j + 1 + 1) = lvsI (n : Int) seed h (j + 1) ++ [lvI (n : Int) seed h (j + 1)] from lvsI_succ _ _ _ _)
          generalize hL1 : lvI (n : Int) seed h (j + 1) = L1 at *
          have HL1 := Lib.hid hL1
          clear hL1
          generalize lvI (n : Int) seed h j = L at *
          clear hP
          have hjI : (j : Int) + 1 ≤ (h : Int) := by omega
          have HO := Lib.hid hO
          have HKO := Lib.hid kr
          clear hO kr
          go_wp2
          go_loopw [7, 51] (fun ux ix wy => ∃ (p : Nat) (uv : Value), uv = ux ∧ p ≤ P ∧ ix = .int .i64 p ∧ OSls wy wo.heap.size uv (upI (n : Int) ((j + 1 : Nat) : Int) L p) ∧ Below wo.heap.size wo wy) (fun _ i _ => P - (intOf i).toNat)
          case atStart => exact ⟨0, _, rfl, by omega, rfl, OSls.nil _ _, Below.refl _ _⟩
          case round =>
            obtain ⟨p, uv, rfl, hp, rfl, hU, hbr⟩ := hrel
            obtain ⟨ua, uc, rfl⟩ := hU.val
            rw [upI_len] at hU ⊢
            have kr := HKO.out.belowS hbr
            have c0 : wr.cell? ⟨g, 0, none⟩ = some (.int .i64 n) := kr.cell 0
            by_cases hlp : p < P
            · have hpI : (p : Int) < (P : Int) := by omega
              have hO := OSls.below HO.out hbr
              obtain ⟨q, hq⟩ : ∃ q : Nat, q = 2 * p := ⟨_, rfl⟩
              obtain ⟨r, hr⟩ : ∃ r : Nat, r = 2 * p + 1 := ⟨_, rfl⟩
              obtain ⟨b, off, u1, rfl, hbl, cu1, su1⟩ := OSls.get hO (k := q) (by rw [HLE.out]; omega)
              obtain ⟨b', off', u2, he, _, cu2, su2⟩ := OSls.get hO (k := r) (by rw [HLE.out]; omega)
              cases he
              have e1 : IntKind.i64.wrap (2 * (p : Int)) = (q : Int) := by rw [IntKind.wrap_i64]; omega
              have e2 : IntKind.i64.wrap ((q : Int) + 1) = (r : Int) := by rw [IntKind.wrap_i64]; omega
              have e3 : (q : Int) < 2 * (P : Int) := by omega
              have e4 : (r : Int) < 2 * (P : Int) := by omega
              have e5 : q < 2 * P := by omega
              have e6 : r < 2 * P := by omega
              have HST := Lib.hid (show upI (n : Int) ((j + 1 : Nat) : Int) L (p + 1) = upI (n : Int) ((j + 1 : Nat) : Int) L p ++ [pairT (n : Int) ((j : Int) + 1) p (L.getD q []) (L.getD r [])] by rw [upI_succ, hq, hr]; rfl)
              have HB1 := Lib.hid (HLB.out _ (getD_mem (l := L) (k := q) (by rw [HLE.out]; omega)))
              have HB2 := Lib.hid (HLB.out _ (getD_mem (l := L) (k := r) (by rw [HLE.out]; omega)))
              have HLN := Lib.hid (show (upI (n : Int) ((j + 1 : Nat) : Int) L p).length + 1 ≤ 5000000000000 by rw [upI_len]; omega)
              generalize L.getD q [] = X1 at *
              generalize L.getD r [] = X2 at *
              generalize upI (n : Int) ((j + 1 : Nat) : Int) L p = UP at *
              obtain ⟨x1, y1, z1, rfl⟩ := su1.val
              obtain ⟨x2, y2, z2, rfl⟩ := su2.val
              have HX := Lib.hid (fun w' (h' : Below wr.heap.size wr w') => mpair_any (n : Int) ((j : Int) + 1) p _ _ X1 X2 w' (by omega) (by omega) (by omega) (by omega) HB1.out HB2.out (su1.below h' (Nat.le_refl _)) (su2.below h' (Nat.le_refl _)) (((HTW.out.keepG HK0.out (n := n) rfl hgr).below hbr).below h'))
              have HUK := Lib.hid (fun w' (h' : Below wr.heap.size wr w') => hU.below h')
              have hsz := hbr.size
              have HBR := Lib.hid hbr
              clear hq hr su1 su2 hU hO kr hbr
              go_wp2
              go_region_law (first
                | (refine step_append_textM rfl (.tmp 54) (.tmp 73) rfl wo.heap.size _ UP rfl hU3 w2.heap.size 1 rfl (.slice xa xn xc) hc2 _ hx2 HLN.out (Nat.le_trans hsz (Nat.le_trans hsz2 hbA.size)) ?_; intro l5 w5 hO5 hb5 hg5)
                | (go_simp; go_at_call 95; refine (HX.out _ (by first | exact Below.refl _ _ | exact (Below.refl _ _).drew)).mono ?_; rintro e w2 ⟨x9, rfl, hx1, hb2⟩; obtain ⟨xa, xn, xc, rfl⟩ := hx1.val; have hb2 : Below wr.heap.size wr w2 := ⟨hb2.os, hb2.tape, hb2.output, hb2.size, hb2.block⟩; have hsz2 : wr.heap.size ≤ w2.heap.size := hb2.size; have hU2 := HUK.out _ hb2; have hbA : Below w2.heap.size w2 (w2.alloc (.cells #[.slice xa xn xc] 22)) := (Below.refl _ _).alloc (Nat.le_refl _) _; have hU3 := hU2.below hbA; have hx2 := hx1.below hbA (Nat.le_refl _); have hc2 := (Blk.new w2 22 #[.slice xa xn xc]).cell 0))
              all_goals
                have hbr5 := HBR.out.trans ((hb2.mono HBR.out.size).trans ((hbA.mono (Nat.le_trans HBR.out.size hb2.size)).trans hb5))
                rw [← HST.out] at hO5
                clear hb5 hg5 hb2 hbA hU2 hU3 hx1 hx2 hc2 HX HUK
                go_wp2
                exact ⟨⟨p + 1, l5, rfl, by omega, by go_num, hO5, hbr5⟩, by simp [intOf]; omega⟩
            · obtain rfl : p = P := by omega
              have hpI : ¬ (p : Int) < (p : Int) := by omega
              have HWV := Lib.hid (hV.below hbr)
              obtain ⟨vb, vd, rfl⟩ := hV.val
              rw [lvsI_len] at *
              have hU0 := OSls.base hU (Nat.zero_le _)
              rw [HUP.out] at hU0
              have hbA : Below wr.heap.size wr (wr.alloc (.cells #[.slice ua p uc] 23)) := (Below.refl _ _).alloc (Nat.le_refl _) _
              have kA := kr.belowS hbA
              have c6 : wr.cell? ⟨g, 6, none⟩ = some (.slice vb (j + 1) vd) := kr.cell 6
              have HVA := Lib.hid (HWV.out.below hbA)
              have hUA := hU0.below hbA
              have cNew := (Blk.new wr 23 #[.slice ua p uc]).cell 0
              clear hU0 hU
              have hszA : w.heap.size ≤ (wr.alloc (.cells #[.slice ua p uc] 23)).heap.size := Nat.le_trans (Nat.le_trans hgr.size hbr.size) hbA.size
              have hGA := only_below (only_below hgr hbr) hbA
              go_wp2_with (at_builtin; refine wpList_append_level rfl _ _ rfl w.heap.size _ _ rfl HVA.out wr.heap.size 1 rfl (.slice ua p uc) cNew _ hUA (by rw [lvsI_len]; omega) hszA ?_)
              intro v5 w5 hV5 hb5 hg5
              have hG5 := only_below0 hGA hb5
              obtain ⟨vs, hv1, hv2⟩ := HVA.out
              have k5 := kA.grown hg5 (Ne.symm (own_blk_ne hv1.1 kA (by decide)))
              have hU5 := OSls.keepR hUA hv1 (by decide) hg5
              rw [← HLV.out] at hV5
              obtain ⟨va5, vc5, rfl⟩ := hV5.val
              rw [lvsI_len] at hV5 ⊢
              have q6 : w5.cell? ⟨g, 6, none⟩ = some (.slice vb (j + 1) vd) := k5.cell 6
              have f65 := k5.frozen 6
              have nb5 := HNB.out (.slice vb (j + 1) vd) ⟨_, _, _, rfl⟩
              have gS := set_onlyG w5 g 6 (.slice va5 (j + 1 + 1) vc5)
              have hVS := hV5.keepGk k5 (by decide) (by decide) nb5 gS
              have hUS := OSls.keepM hU5 k5 (by decide) nb5 gS
              have kS := k5.set_ 6 (.slice va5 (j + 1 + 1) vc5)
              have hGS := only_setCell (p := ⟨g, 6, none⟩) hG5 (Or.inl rfl) (.slice va5 (j + 1 + 1) vc5)
              clear hv1 hv2 hg5 hb5 hV5 hU5 hUA hGA hG5 gS nb5 kA hbA k5 cNew
              go_wp2
              exact ⟨⟨j + 1, _, _, rfl, by omega, by go_num, by rw [HL1.out]; exact hUS, kS, hVS, hGS⟩, by simp [intOf]; omega⟩
        · obtain rfl : j = h := by omega
          have hjI : ¬ (j : Int) + 1 ≤ (j : Int) := by omega
          go_wp2
          go_end0
          exact ⟨rfl, vv, kr, hV.base (Nat.zero_le _), hgr⟩

end Go.Proofs.YtililoojjfcfgaaDoor
