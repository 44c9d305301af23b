/- Trees of signing keys: what their levels are, and lists of lists of texts that a call makes. Conditions: none. -/
import Derived.Test.YtililoojjfcfgaaDoorWotsM
import Derived.Test.YtililoojjfcfgaaDoorWotsS
import Derived.Test.YtililoojjfcfgaaDoorOwnT
import Derived.Test.YtililoojjfcfgaaDoorReaderF
import Derived.Test.YtililoojjfcfgaaDoorCodecR
namespace Go.Proofs.YtililoojjfcfgaaDoor
open Go.RowKit
set_option linter.unusedVariables false

/-- The hash of two of a level. -/
def pairT (size l p : Int) (x y : List Int) : List Int := hashT size 9 [numI l, numI p, x, y]
theorem pairT_isB (size l p : Int) (x y : List Int) : IsB (pairT size l p x y) := hashT_isB' _ _ _
theorem pairT_len (size l p : Int) (x y : List Int) : (pairT size l p x y).length ≤ 32 := hashT_len _ _ _
theorem keyL_len (size : Int) (seed : List Int) (idx : Int) : (keyL size seed idx).length ≤ 32 := by
  unfold keyL; split
  · exact hashT_len _ _ _
  · simp
/-- The p-th of the level above. -/
def upA (size l : Int) (L : List (List Int)) (p : Nat) : List Int := pairT size l p (L.getD (2 * p) []) (L.getD (2 * p + 1) [])
def upI (size l : Int) (L : List (List Int)) (n : Nat) : List (List Int) := (List.range n).map (upA size l L)
def botI (size : Int) (seed : List Int) (n : Nat) : List (List Int) := (List.range n).map fun i : Nat => keyL size seed i
def lvI (size : Int) (seed : List Int) (h : Nat) : Nat → List (List Int)
  | 0 => botI size seed (2 ^ h)
  | l + 1 => upI size (l + 1 : Nat) (lvI size seed h l) (2 ^ (h - (l + 1)))
def lvsI (size : Int) (seed : List Int) (h n : Nat) : List (List (List Int)) := (List.range n).map (lvI size seed h)

theorem botI_succ (size : Int) (seed : List Int) (n : Nat) : botI size seed (n + 1) = botI size seed n ++ [keyL size seed n] := by
  simp [botI, List.range_succ]
theorem upI_succ (size l : Int) (L : List (List Int)) (n : Nat) : upI size l L (n + 1) = upI size l L n ++ [upA size l L n] := by
  simp [upI, List.range_succ]
theorem lvsI_succ (size : Int) (seed : List Int) (h n : Nat) : lvsI size seed h (n + 1) = lvsI size seed h n ++ [lvI size seed h n] := by
  simp [lvsI, List.range_succ]
theorem botI_len (size : Int) (seed : List Int) (n : Nat) : (botI size seed n).length = n := by simp [botI]
theorem upI_len (size l : Int) (L : List (List Int)) (n : Nat) : (upI size l L n).length = n := by simp [upI]
theorem lvsI_len (size : Int) (seed : List Int) (h n : Nat) : (lvsI size seed h n).length = n := by simp [lvsI]
theorem lvI_len (size : Int) (seed : List Int) (h : Nat) : ∀ l, (lvI size seed h l).length = 2 ^ (h - l)
  | 0 => by rw [lvI, botI_len]; rfl
  | l + 1 => by rw [lvI, upI_len]
theorem lvsI_get (size : Int) (seed : List Int) (h n l : Nat) (hl : l < n) : (lvsI size seed h n)[l]? = some (lvI size seed h l) := by
  simp [lvsI, hl]
theorem two_half (h l : Nat) (hl : l < h) : 2 ^ (h - l) = 2 * 2 ^ (h - (l + 1)) := by
  rw [show h - l = (h - (l + 1)) + 1 by omega, Nat.pow_succ]; omega
theorem lvI_isB (size : Int) (seed : List Int) (h : Nat) : ∀ l, ∀ p ∈ lvI size seed h l, IsB p
  | 0 => by
    intro p hp
    simp only [lvI, botI, List.mem_map] at hp
    obtain ⟨i, _, rfl⟩ := hp
    exact keyL_isB _ _ _
  | l + 1 => by
    intro p hp
    simp only [lvI, upI, List.mem_map] at hp
    obtain ⟨i, _, rfl⟩ := hp
    exact pairT_isB _ _ _ _ _
theorem lvI_short (size : Int) (seed : List Int) (h : Nat) : ∀ l, ∀ p ∈ lvI size seed h l, p.length ≤ 32
  | 0 => by
    intro p hp
    simp only [lvI, botI, List.mem_map] at hp
    obtain ⟨i, _, rfl⟩ := hp
    exact keyL_len _ _ _
  | l + 1 => by
    intro p hp
    simp only [lvI, upI, List.mem_map] at hp
    obtain ⟨i, _, rfl⟩ := hp
    exact pairT_len _ _ _ _ _
theorem getD_mem {l : List (List Int)} {k : Nat} (hk : k < l.length) : l.getD k [] ∈ l := by
  rw [List.getD_eq_getElem?_getD, List.getElem?_eq_getElem hk]; exact List.getElem_mem _

theorem OSls.base {w : World} {b0 b1 : Nat} {v : Value} {pss : List (List Int)} (h : OSls w b1 v pss) (hb : b0 ≤ b1) : OSls w b0 v pss := by
  obtain ⟨vs, ⟨h1, h2⟩, h3⟩ := h
  exact ⟨vs, ⟨ownsRow_base h1 hb, h2⟩, h3⟩
/-- A list of texts stays where a row of another type grows. -/
theorem OSls.keepR {w w' : World} {base : Nat} {v : Value} {pss : List (List Int)} (h : OSls w base v pss) {b : Nat} {e : TypeId} {size : Nat} {r : Value} {n : Nat} {xs : List Value} (hown : OwnK w b e size r n xs) (hne : e ≠ 22) (hg : w.grownBy w' r.ownBlock) : OSls w' base v pss := by
  obtain ⟨vs, h1, h2⟩ := h
  have hn : ∀ g', v.ownBlock = some g' → some g' ≠ r.ownBlock := by
    intro g' hg' he
    obtain ⟨c1, k1, _⟩ := h1.2 g' hg'
    obtain ⟨c2, k2, _⟩ := hown.2 g' he.symm
    rw [k1] at k2
    injection k2 with k2
    injection k2 with _ k2
    exact hne k2.symm
  have hb : ∀ g', v.ownBlock = some g' → w'.heap[g']? = w.heap[g']? := fun g' hg' => hg.block g' (h1.1.lt g' hg').2 (hn g' hg')
  refine ⟨vs, ⟨⟨h1.1.1, ?_⟩, fun g' hg' => ?_⟩, h2.keepK hown hg⟩
  · rcases h1.1.2 with hx | ⟨g', cap, cur, rfl, hbg, hh, hr⟩
    · exact Or.inl hx
    · exact Or.inr ⟨g', cap, cur, rfl, hbg, (hb g' rfl).trans hh, hr⟩
  · obtain ⟨cur, hc1, hc2⟩ := h1.2 g' hg'
    exact ⟨cur, (hb g' hg').trans hc1, hc2⟩

def LvAll (w : World) : List Value → List (List (List Int)) → Prop
  | [], [] => True
  | u :: us, l :: ls => OSls w 0 u l ∧ LvAll w us ls
  | _, _ => False
theorem LvAll.len {w : World} : ∀ {us : List Value} {ls : List (List (List Int))}, LvAll w us ls → us.length = ls.length
  | [], [], _ => rfl
  | [], _ :: _, h => h.elim
  | _ :: _, [], h => h.elim
  | _ :: _, _ :: _, h => by simp [LvAll.len h.2]
theorem LvAll.at {w : World} : ∀ {us : List Value} {ls : List (List (List Int))}, LvAll w us ls → ∀ (i : Nat) (u : Value) (l : List (List Int)), us[i]? = some u → ls[i]? = some l → OSls w 0 u l
  | [], [], _, i, u, l, hu, _ => by simp at hu
  | [], _ :: _, h, _, _, _, _, _ => h.elim
  | _ :: _, [], h, _, _, _, _, _ => h.elim
  | u0 :: us, l0 :: ls, h, 0, u, l, hu, hl => by
    simp at hu hl; subst hu hl; exact h.1
  | u0 :: us, l0 :: ls, h, i + 1, u, l, hu, hl => LvAll.at h.2 i u l (by simpa using hu) (by simpa using hl)
theorem LvAll.mono {w w' : World} (f : ∀ u l, OSls w 0 u l → OSls w' 0 u l) : ∀ {us : List Value} {ls : List (List (List Int))}, LvAll w us ls → LvAll w' us ls
  | [], [], _ => trivial
  | [], _ :: _, h => h.elim
  | _ :: _, [], h => h.elim
  | _ :: _, _ :: _, h => ⟨f _ _ h.1, LvAll.mono f h.2⟩
theorem LvAll.snoc {w : World} {u : Value} {l : List (List Int)} (hu : OSls w 0 u l) : ∀ {us : List Value} {ls : List (List (List Int))}, LvAll w us ls → LvAll w (us ++ [u]) (ls ++ [l])
  | [], [], _ => ⟨hu, trivial⟩
  | [], _ :: _, h => h.elim
  | _ :: _, [], h => h.elim
  | _ :: _, _ :: _, h => ⟨h.1, LvAll.snoc hu h.2⟩

/-- A list of lists of texts that the call makes. -/
def OLv (w : World) (base : Nat) (v : Value) (ll : List (List (List Int))) : Prop := ∃ vs, OwnK w base 23 1 v ll.length vs ∧ LvAll w vs ll
theorem OLv.nil (w : World) (base : Nat) : OLv w base (.slice none 0 0) [] := ⟨[], OwnK.nil _ _ _ _, trivial⟩
theorem OLv.below {w w' : World} {base : Nat} {v : Value} {ll : List (List (List Int))} (h : OLv w base v ll) (hb : Below w.heap.size w w') : OLv w' base v ll := by
  obtain ⟨vs, h1, h2⟩ := h
  exact ⟨vs, h1.below hb (Nat.le_refl _), h2.mono fun u l hu => hu.below hb⟩
theorem OLv.base {w : World} {b0 b1 : Nat} {v : Value} {ll : List (List (List Int))} (h : OLv w b1 v ll) (hb : b0 ≤ b1) : OLv w b0 v ll := by
  obtain ⟨vs, ⟨h1, h2⟩, h3⟩ := h
  exact ⟨vs, ⟨ownsRow_base h1 hb, h2⟩, h3⟩
theorem OLv.val {w : World} {base : Nat} {v : Value} {ll : List (List (List Int))} (h : OLv w base v ll) : ∃ a c, v = .slice a ll.length c := by
  obtain ⟨vs, h1, h2⟩ := h
  obtain ⟨a, c, h3, _⟩ := (Sl.of_owns h1.1).shape
  rw [h2.len] at h3
  exact ⟨a, c, h3⟩
/-- A level of it. -/
theorem OLv.at {w : World} {base : Nat} {a : Option Addr} {n cap : Nat} {ll : List (List (List Int))} (h : OLv w base (.slice a n cap) ll) {k : Nat} {l : List (List Int)} (hk : ll[k]? = some l) :
    ∃ b off u, a = some ⟨b, off, none⟩ ∧ b < w.heap.size ∧ w.cell? ⟨b, off + k, none⟩ = some u ∧ OSls w 0 u l := by
  obtain ⟨vs, h1, h2⟩ := h
  have hkl : k < vs.length := by
    rw [h2.len]
    rcases Nat.lt_or_ge k ll.length with hlt | hge
    · exact hlt
    · rw [List.getElem?_eq_none hge] at hk; cases hk
  obtain ⟨b, off, rfl, hb, hc⟩ := (Sl.of_owns h1.1).addr (by omega)
  have hu : vs[k]? = some vs[k] := List.getElem?_eq_getElem hkl
  exact ⟨b, off, vs[k], rfl, hb, hc k _ hu, h2.at k _ _ hu hk⟩
theorem OSls.keepM {w w' : World} {base : Nat} {v : Value} {pss : List (List Int)} (h : OSls w base v pss) {g : Nat} {t : TypeId} {cs : Array Value} (k : Blk w g t cs) (hne1 : 22 ≠ t) (hcs : ∀ (j : Nat) (n : Int), cs[j]? ≠ some (.int .u8 n)) (hg : w.grownBy w' (some g)) : OSls w' base v pss := by
  obtain ⟨us, k1, k2⟩ := h
  have hn : v.ownBlock ≠ some g := own_blk_ne k1.1 k hne1
  refine ⟨us, ⟨k1.1.kept hg (.inr hn), fun g' hg' => ?_⟩, ?_⟩
  · obtain ⟨cur, hc1, hc2⟩ := k1.2 g' hg'
    exact ⟨cur, (hg.block g' (k1.1.lt g' hg').2 (fun e => hn (by rw [hg', e]))).trans hc1, hc2⟩
  · have key : ∀ {us : List Value} {ps : List (List Int)}, SlAll w us ps → SlAll w' us ps := by
      intro us
      induction us with
      | nil => intro ps h; cases ps with
        | nil => trivial
        | cons _ _ => exact h.elim
      | cons u us ih => intro ps h; cases ps with
        | nil => exact h.elim
        | cons p ps => exact ⟨h.1.keepG k hcs hg, ih h.2⟩
    exact key k2
theorem OLv.keepGk {w w' : World} {base : Nat} {v : Value} {ll : List (List (List Int))} (h : OLv w base v ll) {g : Nat} {t : TypeId} {cs : Array Value} (k : Blk w g t cs) (hne : 23 ≠ t) (hne1 : 22 ≠ t) (hcs : ∀ (j : Nat) (n : Int), cs[j]? ≠ some (.int .u8 n)) (hg : w.grownBy w' (some g)) : OLv w' base v ll := by
  obtain ⟨vs, h1, h2⟩ := h
  have hn : v.ownBlock ≠ some g := own_blk_ne h1.1 k hne
  refine ⟨vs, ⟨h1.1.kept hg (.inr hn), fun g' hg' => ?_⟩, h2.mono fun u l hu => hu.keepM k hne1 hcs hg⟩
  obtain ⟨cur, hc1, hc2⟩ := h1.2 g' hg'
  exact ⟨cur, (hg.block g' (h1.1.lt g' hg').2 (fun e => hn (by rw [hg', e]))).trans hc1, hc2⟩

/-- A literal of one level. -/
theorem OLv.lit {w : World} {base : Nat} {u : Value} {l : List (List Int)} (hu : OSls w 0 u l) (hbase : base ≤ w.heap.size) : OLv (w.alloc (.cells #[u] 23)) base (.slice (some ⟨w.heap.size, 0, none⟩) 1 1) [l] := by
  have h := World.ownsRow_lit (base := base) (e := 23) (size := 1) w #[u] 1 hbase (by simp [maxLen]) (by simp)
  have hb : Below w.heap.size w (w.alloc (.cells #[u] 23)) := (Below.refl _ _).alloc (Nat.le_refl _) _
  refine ⟨[u], ⟨h, fun g hg => ?_⟩, ⟨hu.below hb, trivial⟩⟩
  have : w.heap.size = g := by simpa [Value.ownBlock] using hg
  subst this
  obtain ⟨a, c, rfl⟩ := hu.val
  exact ⟨_, heap_alloc_new w _, fun c hc => by simp at hc; subst hc; exact notB_slice _ _ _⟩

theorem only_below0 {a w w1 : World} {row : Option Nat} (h : a.grownBy w row) (hb : Below a.heap.size w w1) : a.grownBy w1 row :=
  ⟨hb.os.trans h.os, hb.tape.trans h.tape, hb.output.trans h.output, Nat.le_trans h.size hb.size, fun i hi hne => (hb.block i hi).trans (h.block i hi hne)⟩

theorem infoL : (Tryd.prog.info? 23).map (fun i => (i.zero, i.size, i.bytes)) = some (some (.slice none 0 0), 1, 24) := by kernel_rfl

theorem wpList_append_level {w : World} {ops : Array Oper} {rest : List Oper} {o : Oper} {a : Act} {Q : Exit → Act → World → Prop} (hgd : o.guard = none) (s x : Operand)
    (ho : o.op = .call { callee := .builtin .append, args := #[s, x], argTypes := #[38, 38] })
    (base : Nat) (v : Value) (ll : List (List (List Int))) (hs : a.eval s = v) (hown : OLv w base v ll)
    (b cap : Nat) (hx : a.eval x = .slice (some ⟨b, 0, none⟩) 1 cap) (u : Value) (hc : w.cell? ⟨b, 0, none⟩ = some u) (l : List (List Int)) (hu : OSls w 0 u l)
    (h63 : ll.length + 1 ≤ 5000000000000) (hbase : base ≤ w.heap.size)
    (h : ∀ v' w', OLv w' base v' (ll ++ [l]) → Below base w w' → w.grownBy w' v.ownBlock → wpList Tryd.prog ops Q rest (a.put o.dst v') w') : wpList Tryd.prog ops Q (o :: rest) a w := by
  obtain ⟨vs, h1, h2⟩ := hown
  obtain ⟨i0, hi, hz0, hz1, hz2⟩ := info_parts infoL
  obtain ⟨ua, uc, rfl⟩ := hu.val
  obtain ⟨v', w', hrun, hown', hg⟩ := run_append_ownK (P := Tryd.prog) w base 38 o.type 23 i0 (.slice none 0 0) 1 24 Tryd.underlying38 hi hz0 hz1 hz2 rfl (by decide) (by intro c hc; simp [Value.cells] at hc; subst hc; exact notB_slice _ _ _) v ll.length vs h1 ⟨b, 0, none⟩ 1 cap [.slice ua l.length uc] rfl
    (fun j y hj => by
      match j, hj with
      | 0, hj => simp at hj; subst hj; exact hc
      | j + 1, hj => simp at hj) (by simp [Value.oneCell']) (by simp [notB_slice]) (by unfold maxLen; omega) (by omega) hbase
  refine wpList_plain hgd fun K hK => ?_
  unfold Oper.wp
  simp [execOp, ho, resolve, invoke, builtin, hs, hx, hrun, Result.andThen]
  refine hK _ _ (h v' w' ⟨_, by simpa using hown', (h2.mono fun u l hu => hu.keepR h1 (by decide) hg).snoc (hu.keepR h1 (by decide) hg)⟩ ?_ hg)
  exact (Below.refl _ _).grown hg hbase (fun k hk => (h1.1.lt k hk).1)

theorem step_append_textM {w : World} {ops : Array Oper} {o : Oper} {a : Act} {K : Act → World → Prop} {Q : Exit → Act → World → Prop} {E : Prop} (hgd : o.guard = none) (s x : Operand)
    (ho : o.op = .call { callee := .builtin .append, args := #[s, x], argTypes := #[23, 23] })
    (base : Nat) (v : Value) (pss : List (List Int)) (hs : a.eval s = v) (hown : OSls w base v pss)
    (b cap : Nat) (hx : a.eval x = .slice (some ⟨b, 0, none⟩) 1 cap) (u : Value) (hc : w.cell? ⟨b, 0, none⟩ = some u) (p : List Int) (hu : Sl w u (p.map (Value.int .u8)))
    (h63 : pss.length + 1 ≤ 5000000000000) (hbase : base ≤ w.heap.size)
    (h : ∀ v' w', OSls w' base v' (pss ++ [p]) → Below base w w' → w.grownBy w' v.ownBlock → K (a.put o.dst v') w') : if Region.wanted o (yielded ops a.tmps) = true then Oper.wp Tryd.prog o a w K Q else E := by
  have hw : Region.wanted o (yielded ops a.tmps) = true := by simp [Region.wanted, hgd]
  rw [if_pos hw]
  obtain ⟨vs, h1, h2⟩ := hown
  obtain ⟨i0, hi, hz0, hz1, hz2⟩ := info_parts infoT
  obtain ⟨ua, un, uc, rfl⟩ := hu.val
  obtain ⟨v', w', hrun, hown', hg⟩ := run_append_ownK (P := Tryd.prog) w base 23 o.type 22 i0 (.slice none 0 0) 1 24 Tryd.underlying23 hi hz0 hz1 hz2 rfl (by decide) (by intro c hc; simp [Value.cells] at hc; subst hc; exact notB_slice _ _ _) v pss.length vs h1 ⟨b, 0, none⟩ 1 cap [.slice ua un uc] rfl
    (fun j y hj => by
      match j, hj with
      | 0, hj => simp at hj; subst hj; exact hc
      | j + 1, hj => simp at hj) (by simp [Value.oneCell']) (by simp [notB_slice]) (by unfold maxLen; omega) (by omega) hbase
  unfold Oper.wp execOp
  simp only [ho, resolve, invoke, builtin, Sem.run_bind, Sem.run_pure, Result.andThen_ok, List.map_toArray, List.map_cons, List.map_nil, hs, hx, hrun]
  exact h v' w' ⟨_, by simpa using hown', (h2.keepK h1 hg).snoc (hu.keepK h1 hg)⟩ ((Below.refl _ _).grown hg hbase (fun k hk => (h1.1.lt k hk).1)) hg

end Go.Proofs.YtililoojjfcfgaaDoor
