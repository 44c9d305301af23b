
/- Records: Decode. -/
import Derived.Test.YtjhannlioddkkaaDoorRec3
import Derived.Test.YtjhannlioddkkaaDoorReaderB
import Derived.Test.YtjhannlioddkkaaDoorRecP
import Derived.Deep.RegionLaw
import Derived.Laws.ResultCell
namespace Go.Proofs.YtjhannlioddkkaaDoor
open Go.RowKit
set_option linter.unusedVariables false

theorem Rd.below {w w' : World} {g : Nat} {bs : List Int} {e : Int} (hr : Rd w g bs e) (hb : Below w.heap.size w w') : Rd w' g bs e := by
  obtain ⟨x, h1, h2⟩ := hr
  exact ⟨x, h1.belowS hb, h2.below hb (Nat.le_refl _)⟩
theorem Rd.sl {w w' : World} {g : Nat} {bs : List Int} {e : Int} (hr : Rd w g bs e) (hg : w.grownBy w' (some g)) {u : Value} {zs : List Int} (hu : Sl w u (zs.map (Value.int .u8))) : Sl w' u (zs.map (Value.int .u8)) := by
  obtain ⟨x, h1, h2⟩ := hr
  exact hu.keepG h1 (rd_noB x h2.val e) hg
theorem OSls.keepRd {w w' : World} {base : Nat} {v : Value} {pss : List (List Int)} (h : OSls w base v pss) {g : Nat} {bs : List Int} {e : Int} (hr : Rd w g bs e) (hg : w.grownBy w' (some g)) : OSls w' base v pss := by
  obtain ⟨x, k, hx⟩ := hr
  obtain ⟨vs, h1, h2⟩ := h
  have hn : v.ownBlock ≠ some g := own_blk_ne h1.1 k (by decide)
  refine ⟨vs, ⟨h1.1.kept hg (.inr hn), fun g' hg' => ?_⟩, ?_⟩
  · obtain ⟨cur, hc1, hc2⟩ := h1.2 g' hg'
    exact ⟨cur, (hg.block g' (h1.1.lt g' hg').2 (fun e => hn (by rw [hg', e]))).trans hc1, hc2⟩
  · have key : ∀ {us : List Value} {ps : List (List Int)}, SlAll w us ps → SlAll w' us ps := by
      intro us
      induction us with
      | nil => intro ps h; cases ps with
        | nil => trivial
        | cons _ _ => exact h.elim
      | cons u us ih => intro ps h; cases ps with
        | nil => exact h.elim
        | cons p ps => exact ⟨h.1.keepG k (rd_noB x hx.val e) hg, ih h.2⟩
    exact key h2
theorem Rd.keepT {w w' : World} {base : Nat} {v : Value} {pss : List (List Int)} (hO : OSls w base v pss) {g : Nat} {bs : List Int} {e : Int} (hr : Rd w g bs e) (hg : w.grownBy w' v.ownBlock) : Rd w' g bs e := by
  obtain ⟨vs, h1, h2⟩ := hO
  obtain ⟨x, k, hx⟩ := hr
  exact ⟨x, k.grown hg (fun e => own_blk_ne h1.1 k (by decide) e.symm), hx.keepK h1 hg⟩
theorem Blk.keepO {w w' : World} {base g : Nat} {t : TypeId} {cs : Array Value} {v : Value} {pss : List (List Int)} (h : Blk w g t cs) (hO : OSls w base v pss) (hg : w.grownBy w' v.ownBlock) (hne : 25 ≠ t) : Blk w' g t cs := by
  obtain ⟨vs, h1, _⟩ := hO
  exact h.grown hg (fun e => own_blk_ne h1.1 h hne e.symm)

def endI (er : Int) (rest : List Int) : Int := if er = 0 then (if rest = [] then 0 else 5) else er
theorem crend_any (g : Nat) (bs : List Int) (er : Int) (w : World) (h : Rd w g bs er) :
    Calls Tryd.prog 98 #[.pointer (some ⟨g, 0, none⟩)] w fun e w' => e = .returned (.int .i64 (endI er bs)) ∧ w = w' := by
  have HE := Lib.hid (crerr_any g bs er w h)
  have HL := Lib.hid (crleft_any g bs er w h)
  clear h
  by_cases he : er = 0
  · by_cases hb : bs = []
    · have HD := Lib.hid (show endI er bs = er by unfold endI; rw [if_pos he, if_pos hb, he])
      have hI : ((bs.length : Int) == 0) = true := by simp [hb]
      have hn : (er != 0) = false := by simp [he]
      clear hb he
      go_enter Tryd.func98, Tryd.ntmps98
      go_wp2_with fail
      refine HE.out.mono ?_
      rintro e w1 ⟨rfl, rfl⟩
      go_wp2_with fail
      refine HL.out.mono ?_
      rintro e w1 ⟨rfl, rfl⟩
      go_wp2
      go_ret
      exact ⟨ret_int HD.out.symm, rfl⟩
    · have HD := Lib.hid (show endI er bs = 5 by unfold endI; rw [if_pos he, if_neg hb])
      have hI : ((bs.length : Int) == 0) = false := by simp [hb]
      have hn : (er != 0) = false := by simp [he]
      clear hb he
      go_enter Tryd.func98, Tryd.ntmps98
      go_wp2_with fail
      refine HE.out.mono ?_
      rintro e w1 ⟨rfl, rfl⟩
      go_wp2_with fail
      refine HL.out.mono ?_
      rintro e w1 ⟨rfl, rfl⟩
      go_wp2
      go_ret
      exact ⟨ret_int HD.out.symm, rfl⟩
  · have HD := Lib.hid (show endI er bs = er by unfold endI; rw [if_neg he])
    have hn : (er != 0) = true := by simp [he]
    clear he
    go_enter Tryd.func98, Tryd.ntmps98
    go_wp2_with fail
    refine HE.out.mono ?_
    rintro e w1 ⟨rfl, rfl⟩
    go_wp2
    go_ret
    exact ⟨ret_int HD.out.symm, rfl⟩

end Go.Proofs.YtjhannlioddkkaaDoor
