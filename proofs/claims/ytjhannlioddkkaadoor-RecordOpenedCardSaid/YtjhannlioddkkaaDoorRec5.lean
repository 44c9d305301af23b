
/- Records: what Decode keeps while it reads. -/
import Derived.Test.YtjhannlioddkkaaDoorRec4
namespace Go.Proofs.YtjhannlioddkkaaDoor
open Go.RowKit
set_option linter.unusedVariables false

theorem step_append_textR {w : World} {ops : Array Oper} {o : Oper} {a : Act} {K : Act → World → Prop} {Q : Exit → Act → World → Prop} {E : Prop} (hgd : o.guard = none) (s x : Operand)
    (ho : o.op = .call { callee := .builtin .append, args := #[s, x], argTypes := #[22, 22] })
    (base : Nat) (v : Value) (pss : List (List Int)) (hs : a.eval s = v) (hown : OSls w base v pss)
    (b cap : Nat) (hx : a.eval x = .slice (some ⟨b, 0, none⟩) 1 cap) (u : Value) (hc : w.cell? ⟨b, 0, none⟩ = some u) (p : List Int) (hu : Sl w u (p.map (Value.int .u8)))
    (h63 : pss.length + 1 ≤ 5000000000000) (hbase : base ≤ w.heap.size)
    (h : ∀ v' w', OSls w' base v' (pss ++ [p]) → Below base w w' → w.grownBy w' v.ownBlock → K (a.put o.dst v') w') : if Region.wanted o (yielded ops a.tmps) = true then Oper.wp Tryd.prog o a w K Q else E := by
  have hw : Region.wanted o (yielded ops a.tmps) = true := by simp [Region.wanted, hgd]
  rw [if_pos hw]
  obtain ⟨vs, h1, h2⟩ := hown
  obtain ⟨i0, hi, hz0, hz1, hz2⟩ := info_parts infoT
  obtain ⟨ua, un, uc, rfl⟩ := hu.val
  obtain ⟨v', w', hrun, hown', hg⟩ := run_append_ownK (P := Tryd.prog) w base 22 o.type 25 i0 (.slice none 0 0) 1 24 Tryd.underlying22 hi hz0 hz1 hz2 rfl (by decide) (by intro c hc; simp [Value.cells] at hc; subst hc; exact notB_slice _ _ _) v pss.length vs h1 ⟨b, 0, none⟩ 1 cap [.slice ua un uc] rfl
    (fun j y hj => by
      match j, hj with
      | 0, hj => simp at hj; subst hj; exact hc
      | j + 1, hj => simp at hj) (by simp [Value.oneCell']) (by simp [notB_slice]) (by unfold maxLen; omega) (by omega) hbase
  unfold Oper.wp execOp
  simp only [ho, resolve, invoke, builtin, Sem.run_bind, Sem.run_pure, Result.andThen_ok, List.map_toArray, List.map_cons, List.map_nil, hs, hx, hrun]
  exact h v' w' ⟨_, by simpa using hown', (h2.keepK h1 hg).snoc (hu.keepK h1 hg)⟩ ((Below.refl _ _).grown hg hbase (fun k hk => (h1.1.lt k hk).1)) hg


theorem OSls.keepGk {w w' : World} {base : Nat} {v : Value} {pss : List (List Int)} (h : OSls w base v pss) {g : Nat} {t : TypeId} {cs : Array Value} (k : Blk w g t cs) (hne : 25 ≠ t) (hcs : ∀ (j : Nat) (n : Int), cs[j]? ≠ some (.int .u8 n)) (hg : w.grownBy w' (some g)) : OSls w' base v pss := by
  obtain ⟨vs, h1, h2⟩ := h
  have hn : v.ownBlock ≠ some g := own_blk_ne h1.1 k hne
  refine ⟨vs, ⟨h1.1.kept hg (.inr hn), fun g' hg' => ?_⟩, ?_⟩
  · obtain ⟨cur, hc1, hc2⟩ := h1.2 g' hg'
    exact ⟨cur, (hg.block g' (h1.1.lt g' hg').2 (fun e => hn (by rw [hg', e]))).trans hc1, hc2⟩
  · have key : ∀ {us : List Value} {ps : List (List Int)}, SlAll w us ps → SlAll w' us ps := by
      intro us
      induction us with
      | nil => intro ps h; cases ps with
        | nil => trivial
        | cons _ _ => exact h.elim
      | cons u us ih => intro ps h; cases ps with
        | nil => exact h.elim
        | cons p ps => exact ⟨h.1.keepG k hcs hg, ih h.2⟩
    exact key h2

def isSl (v : Value) : Prop := ∃ a n c, v = .slice a n c
theorem rec_noB {e1 e2 e4 : Int} {tv lv ov : Value} (h1 : isSl tv) (h2 : isSl lv) (h3 : isSl ov) : ∀ (j : Nat) (n : Int), (#[.int .i64 e1, .int .i64 e2, tv, .int .i64 e4, lv, ov] : Array Value)[j]? ≠ some (.int .u8 n) := by
  obtain ⟨_, _, _, rfl⟩ := h1
  obtain ⟨_, _, _, rfl⟩ := h2
  obtain ⟨_, _, _, rfl⟩ := h3
  intro j n h
  match j, h with
  | 0, h => cases h
  | 1, h => cases h
  | 2, h => cases h
  | 3, h => cases h
  | 4, h => cases h
  | 5, h => cases h
  | j + 6, h => simp at h

/-- How far Decode has come: the record that it fills, the links' row, the reader. -/
structure DecS (W w : World) (g gr : Nat) (e1 e2 e4 : Int) (tv lv ov : Value) (tb lb : List Int) (pss : List (List Int)) (rest : List Int) (er : Int) : Prop where
  kR : Blk w gr 35 #[.int .i64 e1, .int .i64 e2, tv, .int .i64 e4, lv, ov]
  hO : OSls w W.heap.size ov pss
  hr : Rd w g rest er
  ht : Sl w tv (tb.map (Value.int .u8))
  hl : Sl w lv (lb.map (Value.int .u8))
  kZ : Blk w W.heap.size 35 #[.int .i64 0, .int .i64 0, .slice none 0 0, .int .i64 0, .slice none 0 0, .slice none 0 0]
  hb : Below W.heap.size W w
  h1 : g ≠ gr
  h2 : W.heap.size < g
  h3 : W.heap.size < gr

section
variable {W w w1 : World} {g gr : Nat} {e1 e2 e4 : Int} {tv lv ov : Value} {tb lb : List Int} {pss : List (List Int)} {rest : List Int} {er : Int}
theorem DecS.below (h : DecS W w g gr e1 e2 e4 tv lv ov tb lb pss rest er) (hb : Below w.heap.size w w1) : DecS W w1 g gr e1 e2 e4 tv lv ov tb lb pss rest er :=
  ⟨h.kR.belowS hb, h.hO.below hb, h.hr.below hb, h.ht.below hb (Nat.le_refl _), h.hl.below hb (Nat.le_refl _), h.kZ.belowS hb, below_trans2 h.hb hb, h.h1, h.h2, h.h3⟩
theorem DecS.read (h : DecS W w g gr e1 e2 e4 tv lv ov tb lb pss rest er) {rest' : List Int} {er' : Int} (hR : RdAt w w1 g rest' er') : DecS W w1 g gr e1 e2 e4 tv lv ov tb lb pss rest' er' :=
  ⟨h.kR.grown hR.2 (by intro e; cases e; exact h.h1 rfl), h.hO.keepRd h.hr hR.2, hR.1, h.hr.sl hR.2 h.ht, h.hr.sl hR.2 h.hl, h.kZ.grown hR.2 (by intro e; cases e; exact absurd h.h2 (Nat.lt_irrefl _)), below_of_only h.hb hR.2 (Nat.le_of_lt h.h2) h.hb.size, h.h1, h.h2, h.h3⟩
theorem DecS.app (h : DecS W w g gr e1 e2 e4 tv lv ov tb lb pss rest er) {ov' : Value} {pss' : List (List Int)} (hO : OSls w1 W.heap.size ov' pss') (hg : w.grownBy w1 ov.ownBlock) :
    w1.cell? ⟨gr, 5, none⟩ = some ov ∧ w1.frozen? ⟨gr, 5, none⟩ = false ∧ DecS W (w1.setCell ⟨gr, 5, none⟩ ov') g gr e1 e2 e4 tv lv ov' tb lb pss' rest er := by
  have kR := h.kR.keepO h.hO hg (by decide)
  have hr := Rd.keepT h.hO h.hr hg
  have kZ := h.kZ.keepO h.hO hg (by decide)
  have hOO := h.hO
  obtain ⟨vs, o1, o2⟩ := hOO
  have ht := h.ht.keepK o1 hg
  have hl := h.hl.keepK o1 hg
  have hb : Below W.heap.size W w1 := h.hb.grown hg h.hb.size (fun k hk => (o1.1.lt k hk).1)
  obtain ⟨ta, tn, tc, e1'⟩ := ht.val
  obtain ⟨la, ln, lc, e2'⟩ := hl.val
  obtain ⟨oa, oc, e3'⟩ := OSls.val h.hO
  have hNB := rec_noB (e1 := e1) (e2 := e2) (e4 := e4) ⟨_, _, _, e1'⟩ ⟨_, _, _, e2'⟩ ⟨_, _, _, e3'⟩
  have hgS : w1.grownBy (w1.setCell ⟨gr, 5, none⟩ ov') (some gr) := only_setCell (p := ⟨gr, 5, none⟩) (World.grownBy.refl _ _) (.inl rfl) _
  obtain ⟨x, r1, r2⟩ := hr
  refine ⟨kR.cell 5, kR.frozen 5, kR.set_ 5 _, hO.keepGk kR (by decide) hNB hgS, ⟨x, r1.grown hgS (by intro e; cases e; exact h.h1 rfl), r2.keepG kR hNB hgS⟩, ht.keepG kR hNB hgS, hl.keepG kR hNB hgS, kZ.grown hgS (by intro e; cases e; exact absurd h.h3 (Nat.lt_irrefl _)), below_of_only hb hgS (Nat.le_of_lt h.h3) hb.size, h.h1, h.h2, h.h3⟩
end

end Go.Proofs.YtjhannlioddkkaaDoor
