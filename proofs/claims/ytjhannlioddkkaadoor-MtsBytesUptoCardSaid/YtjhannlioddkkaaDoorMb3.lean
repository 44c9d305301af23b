
/- The walks of Recover, the program's and the reference's. The plain law of the digits, and the walk of the law WotsChecks. The walk of SameTexts: whether two lists of texts are the same. The walk of the law WotsSigns. Trees of signing keys: what their levels are, and lists of lists of texts that a call makes. Conditions: none. Trees of signing keys: what may be, the hash of two. Trees of signing keys: all hashes are reckoned. Trees of signing keys: the hashes are reckoned once; a hash is told; New, Public. Trees of signing keys: a hash is told; Public; New. Trees of signing keys: the law's awake; keys that no call made. Signatures as bytes: the walk of the law MtsBytes. Conditions: the texts are bytes, and a million of them at most, each of a million bytes at most. How a [][]byte that came in is opened. How a signature that came in is opened. What the bound of the second form gives. Conditions: none. How a signature that came in is opened, with the bound of the second form. -/
import Derived.Test.YtjhannlioddkkaaDoorMb2
import Derived.Test.YtjhannlioddkkaaDoorWotsP
import Derived.Test.YtjhannlioddkkaaDoorEqInts
import Derived.Test.YtjhannlioddkkaaDoorTextA
import Derived.Test.YtjhannlioddkkaaDoorOwnT
import Derived.Test.YtjhannlioddkkaaDoorReaderF
import Derived.Test.YtjhannlioddkkaaDoorCodecR
import Derived.Test.YtjhannlioddkkaaDoorMtsCan
import Derived.Deep.RegionHeld3
import Derived.Deep.Cut
import Derived.Test.YtjhannlioddkkaaDoorOnce
import Derived.Test.YtjhannlioddkkaaDoorSig1
import Derived.Test.YtjhannlioddkkaaDoorMb1
import Derived.Deep.Matrix
import Derived.ProofKit
import Derived.OpenShut
import Derived.Deep.Slices
import Derived.Deep.Fields
import Derived.ChangeSame
import Derived.Lib.SmallJoins
import Derived.Lib.LaidTab
import Derived.Test.YtjhannlioddkkaaDoorRows
import Derived.ChangeSlices
namespace Go.Proofs.YtjhannlioddkkaaDoor
open Go.RowKit
set_option linter.unusedVariables false

/-- Whether Recover takes what it is given. -/
def recB (size : Int) (l : List (List Int)) (idx : Int) (m : Nat) : Bool := canB size 0 idx && (decide ((m : Int) = size) && (decide ((l.length : Int) = 4 * size + 5) && !decide (∃ p ∈ l, ¬ (p.length : Int) = size)))
def recK (size : Int) (l : List (List Int)) (idx : Int) (dd : List Int) (i : Nat) : List Int := chI size idx i (dd.getD i 0) ((l.getD i []).take 32) (3 - (dd.getD i 0).toNat)
def recE (size : Int) (l : List (List Int)) (idx : Int) (m : Nat) : Int := if recB size l idx m = true then 0 else 1
def recL (size : Int) (l : List (List Int)) (idx : Int) (dg : List Int) : List Int := if recB size l idx dg.length = true then hashT size 8 [numI idx, catI (recK size l idx (digitsOf dg)) (4 * size.toNat + 5)] else []
theorem recL_isB (size : Int) (l : List (List Int)) (idx : Int) (dg : List Int) : IsB (recL size l idx dg) := by
  unfold recL; split
  · exact hashT_isB' _ _ _
  · intro x hx; cases hx
theorem getD_isB {l : List (List Int)} (h : ∀ p ∈ l, IsB p) (i : Nat) : IsB (l.getD i []) := by
  rw [List.getD_eq_getElem?_getD]
  rcases Nat.lt_or_ge i l.length with hi | hi
  · rw [List.getElem?_eq_getElem hi]; exact h _ (List.getElem_mem hi)
  · rw [List.getElem?_eq_none hi]; intro x hx; cases hx
theorem recK_isB (size : Int) (l : List (List Int)) (idx : Int) (dd : List Int) (h : ∀ p ∈ l, IsB p) (i : Nat) : IsB (recK size l idx dd i) := chI_isB _ _ _ _ _ ((getD_isB h i).take 32) _
theorem recK_len (size : Int) (l : List (List Int)) (idx : Int) (dd : List Int) (i : Nat) : (recK size l idx dd i).length ≤ 32 := by
  have := chI_len size idx i (dd.getD i 0) ((l.getD i []).take 32) (3 - (dd.getD i 0).toNat)
  rw [List.length_take] at this
  unfold recK; omega
theorem getD_take {l : List (List Int)} {size : Int} (h1 : size ≤ 32) (h : ¬ ∃ p ∈ l, ¬ (p.length : Int) = size) (i : Nat) : (l.getD i []).take 32 = l.getD i [] := by
  rw [List.getD_eq_getElem?_getD]
  rcases Nat.lt_or_ge i l.length with hi | hi
  · rw [List.getElem?_eq_getElem hi]
    refine List.take_of_length_le ?_
    have : (l[i].length : Int) = size := by
      rcases Decidable.em ((l[i].length : Int) = size) with h0 | h0
      · exact h0
      · exact absurd ⟨_, List.getElem_mem hi, h0⟩ h
    simp only [Option.getD_some]; omega
  · rw [List.getElem?_eq_none hi]; rfl

end Go.Proofs.YtjhannlioddkkaaDoor

namespace Go.Proofs.YtjhannlioddkkaaDoor
open Go.RowKit
set_option linter.unusedVariables false

theorem digits255 : digitsOf [255] = [3, 3, 3, 3, 0, 0, 0, 0, 0] := by decide +kernel


end Go.Proofs.YtjhannlioddkkaaDoor

namespace Go.Proofs.YtjhannlioddkkaaDoor
open Go.RowKit
set_option linter.unusedVariables false

theorem texts_differ {ps qs : List (List Int)} {k : Nat} (h : ps.getD k [] ≠ qs.getD k []) : decide (ps = qs) = false := by
  simp only [decide_eq_false_iff_not]
  rintro rfl
  exact h rfl
theorem texts_same {ps qs : List (List Int)} (hl : ps.length = qs.length) (h : ∀ j, j < ps.length → ps.getD j [] = qs.getD j []) : decide (ps = qs) = true := by
  simp only [decide_eq_true_eq]
  refine List.ext_getElem hl fun j h1 h2 => ?_
  have := h j h1
  rwa [List.getD_eq_getElem?_getD, List.getD_eq_getElem?_getD, List.getElem?_eq_getElem h1, List.getElem?_eq_getElem h2] at this
theorem isB_at {ps : List (List Int)} (h : ∀ p ∈ ps, IsB p) {k : Nat} (hk : k < ps.length) : IsB (ps.getD k []) := h _ (by rw [List.getD_eq_getElem?_getD, List.getElem?_eq_getElem hk]; exact List.getElem_mem hk)

set_option maxHeartbeats 1000000 in
theorem equalFunc_any (v1 v2 : Value) (ps qs : List (List Int)) (w : World) (h1 : Sls w v1 ps) (h2 : Sls w v2 qs) (hp : ∀ p ∈ ps, IsB p) (hq : ∀ p ∈ qs, IsB p) :
    Calls Tryd.prog 84 #[v1, v2, .func (.func 13) #[] #[]] w fun e w' => e = .returned (.bool (decide (ps = qs))) ∧ w = w' := by
  obtain ⟨a1, c1, rfl, hc1, hm1⟩ := h1.shape
  obtain ⟨a2, c2, rfl, hc2, hm2⟩ := h2.shape
  by_cases hl : ps.length = qs.length
  · have HL := Lib.hid hl
    rw [← hl] at h2 hc2
    rw [← hl]
    clear hl
    go_enter Tryd.func84, Tryd.ntmps84
    go_wp2
    go_loopw [17] (fun i wr => ∃ k : Nat, k ≤ ps.length ∧ i = .int .i64 k ∧ Hid (∀ j, j < k → ps.getD j [] = qs.getD j []) ∧ w = wr) (fun i _ => ps.length - (intOf i).toNat)
    case atStart => exact ⟨0, by omega, rfl, fun j hj => absurd hj (by omega), rfl⟩
    case round =>
      obtain ⟨k, hk, rfl, hall, rfl⟩ := hrel
      by_cases hlt : k < ps.length
      · obtain ⟨b1, o1, rfl, hb1, u1, hu1, hs1⟩ := h1.at hlt
        obtain ⟨b2, o2, rfl, hb2, u2, hu2, hs2⟩ := h2.at (k := k) (by rw [← HL.out]; exact hlt)
        have hkI : (k : Int) < (ps.length : Int) := by omega
        have he := Lib.hid (bytesEq_any u1 u2 _ _ w hs1 hs2 (isB_at hp hlt) (isB_at hq (k := k) (by rw [← HL.out]; exact hlt)))
        clear hs1 hs2
        go_wp2_with fail
        refine he.out.mono ?_
        by_cases hxy : ps.getD k [] = qs.getD k []
        · rw [show decide (ps.getD k [] = qs.getD k []) = true by simpa using hxy]
          rintro e w1 ⟨rfl, rfl⟩
          have HX := Lib.hid hxy
          clear hxy hu1 hu2 he
          go_wp2
          go_roundw
          case rel =>
            refine ⟨k + 1, by omega, by go_num, fun j hj => ?_, by first | rfl | trivial⟩
            rcases Nat.lt_or_ge j k with h | h
            · exact hall.out j h
            · obtain rfl : j = k := by omega
              exact HX.out
          case measure => simp [intOf]; omega
        · rw [show decide (ps.getD k [] = qs.getD k []) = false by simpa using hxy]
          rintro e w1 ⟨rfl, rfl⟩
          have HD := Lib.hid (texts_differ hxy)
          clear hxy hu1 hu2 he
          go_wp2
          go_ret
          exact ⟨ret_bool HD.out.symm, rfl⟩
      · have hkI : ¬ (k : Int) < (ps.length : Int) := by omega
        have HD := Lib.hid (texts_same HL.out fun j hj => hall.out j (by omega))
        go_wp2
        go_ret
        exact ⟨ret_bool HD.out.symm, rfl⟩
  · have hI : ¬ (ps.length : Int) = (qs.length : Int) := by omega
    have HD := Lib.hid (show decide (ps = qs) = false by simp only [decide_eq_false_iff_not]; rintro rfl; exact hl rfl)
    clear hl
    go_enter Tryd.func84, Tryd.ntmps84
    go_wp2
    go_ret
    exact ⟨ret_bool HD.out.symm, rfl⟩

theorem sameTexts_any (v1 v2 : Value) (ps qs : List (List Int)) (w : World) (h1 : Sls w v1 ps) (h2 : Sls w v2 qs) (hp : ∀ p ∈ ps, IsB p) (hq : ∀ p ∈ qs, IsB p) :
    Calls Tryd.prog 39 #[v1, v2] w fun e w' => e = .returned (.bool (decide (ps = qs))) ∧ w = w' := by
  have he := Lib.hid (equalFunc_any v1 v2 ps qs w h1 h2 hp hq)
  go_enter Tryd.func39, Tryd.ntmps39
  go_wp2_with fail
  refine he.out.mono ?_
  rintro e w1 ⟨rfl, rfl⟩
  go_wp2
  go_ret
  exact ⟨rfl, rfl⟩

end Go.Proofs.YtjhannlioddkkaaDoor

namespace Go.Proofs.YtjhannlioddkkaaDoor
open Go.RowKit
set_option linter.unusedVariables false

theorem sgU_isB (size : Int) (seed : List Int) (idx : Int) (dd : List Int) (k : Nat) : ∀ p ∈ sgU size seed idx dd k, IsB p := fun p hp => by
  unfold sgU at hp
  obtain ⟨i, _, rfl⟩ := List.mem_map.1 hp
  exact chI_isB _ _ _ _ _ (secI_isB _ _ _ _) _
theorem signL_isB (size : Int) (seed : List Int) (idx : Int) (dg : List Int) : ∀ p ∈ signL size seed idx dg, IsB p := by
  unfold signL; split
  · exact sgU_isB _ _ _ _ _
  · intro p hp; cases hp

end Go.Proofs.YtjhannlioddkkaaDoor

namespace Go.Proofs.YtjhannlioddkkaaDoor
open Go.RowKit
set_option linter.unusedVariables false

/-- The hash of two of a level. -/
def pairT (size l p : Int) (x y : List Int) : List Int := hashT size 9 [numI l, numI p, x, y]
theorem pairT_isB (size l p : Int) (x y : List Int) : IsB (pairT size l p x y) := hashT_isB' _ _ _
theorem pairT_len (size l p : Int) (x y : List Int) : (pairT size l p x y).length ≤ 32 := hashT_len _ _ _
theorem keyL_len (size : Int) (seed : List Int) (idx : Int) : (keyL size seed idx).length ≤ 32 := by
  unfold keyL; split
  · exact hashT_len _ _ _
  · simp
/-- The p-th of the level above. -/
def upA (size l : Int) (L : List (List Int)) (p : Nat) : List Int := pairT size l p (L.getD (2 * p) []) (L.getD (2 * p + 1) [])
def upI (size l : Int) (L : List (List Int)) (n : Nat) : List (List Int) := (List.range n).map (upA size l L)
def botI (size : Int) (seed : List Int) (n : Nat) : List (List Int) := (List.range n).map fun i : Nat => keyL size seed i
def lvI (size : Int) (seed : List Int) (h : Nat) : Nat → List (List Int)
  | 0 => botI size seed (2 ^ h)
  | l + 1 => upI size (l + 1 : Nat) (lvI size seed h l) (2 ^ (h - (l + 1)))
def lvsI (size : Int) (seed : List Int) (h n : Nat) : List (List (List Int)) := (List.range n).map (lvI size seed h)

theorem botI_succ (size : Int) (seed : List Int) (n : Nat) : botI size seed (n + 1) = botI size seed n ++ [keyL size seed n] := by
  simp [botI, List.range_succ]
theorem upI_succ (size l : Int) (L : List (List Int)) (n : Nat) : upI size l L (n + 1) = upI size l L n ++ [upA size l L n] := by
  simp [upI, List.range_succ]
theorem lvsI_succ (size : Int) (seed : List Int) (h n : Nat) : lvsI size seed h (n + 1) = lvsI size seed h n ++ [lvI size seed h n] := by
  simp [lvsI, List.range_succ]
theorem botI_len (size : Int) (seed : List Int) (n : Nat) : (botI size seed n).length = n := by simp [botI]
theorem upI_len (size l : Int) (L : List (List Int)) (n : Nat) : (upI size l L n).length = n := by simp [upI]
theorem lvsI_len (size : Int) (seed : List Int) (h n : Nat) : (lvsI size seed h n).length = n := by simp [lvsI]
theorem lvI_len (size : Int) (seed : List Int) (h : Nat) : ∀ l, (lvI size seed h l).length = 2 ^ (h - l)
  | 0 => by rw [lvI, botI_len]; rfl
  | l + 1 => by rw [lvI, upI_len]
theorem lvsI_get (size : Int) (seed : List Int) (h n l : Nat) (hl : l < n) : (lvsI size seed h n)[l]? = some (lvI size seed h l) := by
  simp [lvsI, hl]
theorem two_half (h l : Nat) (hl : l < h) : 2 ^ (h - l) = 2 * 2 ^ (h - (l + 1)) := by
  rw [show h - l = (h - (l + 1)) + 1 by omega, Nat.pow_succ]; omega
theorem lvI_isB (size : Int) (seed : List Int) (h : Nat) : ∀ l, ∀ p ∈ lvI size seed h l, IsB p
  | 0 => by
    intro p hp
    simp only [lvI, botI, List.mem_map] at hp
    obtain ⟨i, _, rfl⟩ := hp
    exact keyL_isB _ _ _
  | l + 1 => by
    intro p hp
    simp only [lvI, upI, List.mem_map] at hp
    obtain ⟨i, _, rfl⟩ := hp
    exact pairT_isB _ _ _ _ _
theorem lvI_short (size : Int) (seed : List Int) (h : Nat) : ∀ l, ∀ p ∈ lvI size seed h l, p.length ≤ 32
  | 0 => by
    intro p hp
    simp only [lvI, botI, List.mem_map] at hp
    obtain ⟨i, _, rfl⟩ := hp
    exact keyL_len _ _ _
  | l + 1 => by
    intro p hp
    simp only [lvI, upI, List.mem_map] at hp
    obtain ⟨i, _, rfl⟩ := hp
    exact pairT_len _ _ _ _ _
theorem getD_mem {l : List (List Int)} {k : Nat} (hk : k < l.length) : l.getD k [] ∈ l := by
  rw [List.getD_eq_getElem?_getD, List.getElem?_eq_getElem hk]; exact List.getElem_mem _

theorem OSls.base {w : World} {b0 b1 : Nat} {v : Value} {pss : List (List Int)} (h : OSls w b1 v pss) (hb : b0 ≤ b1) : OSls w b0 v pss := by
  obtain ⟨vs, ⟨h1, h2⟩, h3⟩ := h
  exact ⟨vs, ⟨ownsRow_base h1 hb, h2⟩, h3⟩
/-- A list of texts stays where a row of another type grows. -/
theorem OSls.keepR {w w' : World} {base : Nat} {v : Value} {pss : List (List Int)} (h : OSls w base v pss) {b : Nat} {e : TypeId} {size : Nat} {r : Value} {n : Nat} {xs : List Value} (hown : OwnK w b e size r n xs) (hne : e ≠ 25) (hg : w.grownBy w' r.ownBlock) : OSls w' base v pss := by
  obtain ⟨vs, h1, h2⟩ := h
  have hn : ∀ g', v.ownBlock = some g' → some g' ≠ r.ownBlock := by
    intro g' hg' he
    obtain ⟨c1, k1, _⟩ := h1.2 g' hg'
    obtain ⟨c2, k2, _⟩ := hown.2 g' he.symm
    rw [k1] at k2
    injection k2 with k2
    injection k2 with _ k2
    exact hne k2.symm
  have hb : ∀ g', v.ownBlock = some g' → w'.heap[g']? = w.heap[g']? := fun g' hg' => hg.block g' (h1.1.lt g' hg').2 (hn g' hg')
  refine ⟨vs, ⟨⟨h1.1.1, ?_⟩, fun g' hg' => ?_⟩, h2.keepK hown hg⟩
  · rcases h1.1.2 with hx | ⟨g', cap, cur, rfl, hbg, hh, hr⟩
    · exact Or.inl hx
    · exact Or.inr ⟨g', cap, cur, rfl, hbg, (hb g' rfl).trans hh, hr⟩
  · obtain ⟨cur, hc1, hc2⟩ := h1.2 g' hg'
    exact ⟨cur, (hb g' hg').trans hc1, hc2⟩

def LvAll (w : World) : List Value → List (List (List Int)) → Prop
  | [], [] => True
  | u :: us, l :: ls => OSls w 0 u l ∧ LvAll w us ls
  | _, _ => False
theorem LvAll.len {w : World} : ∀ {us : List Value} {ls : List (List (List Int))}, LvAll w us ls → us.length = ls.length
  | [], [], _ => rfl
  | [], _ :: _, h => h.elim
  | _ :: _, [], h => h.elim
  | _ :: _, _ :: _, h => by simp [LvAll.len h.2]
theorem LvAll.at {w : World} : ∀ {us : List Value} {ls : List (List (List Int))}, LvAll w us ls → ∀ (i : Nat) (u : Value) (l : List (List Int)), us[i]? = some u → ls[i]? = some l → OSls w 0 u l
  | [], [], _, i, u, l, hu, _ => by simp at hu
  | [], _ :: _, h, _, _, _, _, _ => h.elim
  | _ :: _, [], h, _, _, _, _, _ => h.elim
  | u0 :: us, l0 :: ls, h, 0, u, l, hu, hl => by
    simp at hu hl; subst hu hl; exact h.1
  | u0 :: us, l0 :: ls, h, i + 1, u, l, hu, hl => LvAll.at h.2 i u l (by simpa using hu) (by simpa using hl)
theorem LvAll.mono {w w' : World} (f : ∀ u l, OSls w 0 u l → OSls w' 0 u l) : ∀ {us : List Value} {ls : List (List (List Int))}, LvAll w us ls → LvAll w' us ls
  | [], [], _ => trivial
  | [], _ :: _, h => h.elim
  | _ :: _, [], h => h.elim
  | _ :: _, _ :: _, h => ⟨f _ _ h.1, LvAll.mono f h.2⟩
theorem LvAll.snoc {w : World} {u : Value} {l : List (List Int)} (hu : OSls w 0 u l) : ∀ {us : List Value} {ls : List (List (List Int))}, LvAll w us ls → LvAll w (us ++ [u]) (ls ++ [l])
  | [], [], _ => ⟨hu, trivial⟩
  | [], _ :: _, h => h.elim
  | _ :: _, [], h => h.elim
  | _ :: _, _ :: _, h => ⟨h.1, LvAll.snoc hu h.2⟩

/-- A list of lists of texts that the call makes. -/
def OLv (w : World) (base : Nat) (v : Value) (ll : List (List (List Int))) : Prop := ∃ vs, OwnK w base 22 1 v ll.length vs ∧ LvAll w vs ll
theorem OLv.nil (w : World) (base : Nat) : OLv w base (.slice none 0 0) [] := ⟨[], OwnK.nil _ _ _ _, trivial⟩
theorem OLv.below {w w' : World} {base : Nat} {v : Value} {ll : List (List (List Int))} (h : OLv w base v ll) (hb : Below w.heap.size w w') : OLv w' base v ll := by
  obtain ⟨vs, h1, h2⟩ := h
  exact ⟨vs, h1.below hb (Nat.le_refl _), h2.mono fun u l hu => hu.below hb⟩
theorem OLv.base {w : World} {b0 b1 : Nat} {v : Value} {ll : List (List (List Int))} (h : OLv w b1 v ll) (hb : b0 ≤ b1) : OLv w b0 v ll := by
  obtain ⟨vs, ⟨h1, h2⟩, h3⟩ := h
  exact ⟨vs, ⟨ownsRow_base h1 hb, h2⟩, h3⟩
theorem OLv.val {w : World} {base : Nat} {v : Value} {ll : List (List (List Int))} (h : OLv w base v ll) : ∃ a c, v = .slice a ll.length c := by
  obtain ⟨vs, h1, h2⟩ := h
  obtain ⟨a, c, h3, _⟩ := (Sl.of_owns h1.1).shape
  rw [h2.len] at h3
  exact ⟨a, c, h3⟩
/-- A level of it. -/
theorem OLv.at {w : World} {base : Nat} {a : Option Addr} {n cap : Nat} {ll : List (List (List Int))} (h : OLv w base (.slice a n cap) ll) {k : Nat} {l : List (List Int)} (hk : ll[k]? = some l) :
    ∃ b off u, a = some ⟨b, off, none⟩ ∧ b < w.heap.size ∧ w.cell? ⟨b, off + k, none⟩ = some u ∧ OSls w 0 u l := by
  obtain ⟨vs, h1, h2⟩ := h
  have hkl : k < vs.length := by
    rw [h2.len]
    rcases Nat.lt_or_ge k ll.length with hlt | hge
    · exact hlt
    · rw [List.getElem?_eq_none hge] at hk; cases hk
  obtain ⟨b, off, rfl, hb, hc⟩ := (Sl.of_owns h1.1).addr (by omega)
  have hu : vs[k]? = some vs[k] := List.getElem?_eq_getElem hkl
  exact ⟨b, off, vs[k], rfl, hb, hc k _ hu, h2.at k _ _ hu hk⟩
theorem OSls.keepM {w w' : World} {base : Nat} {v : Value} {pss : List (List Int)} (h : OSls w base v pss) {g : Nat} {t : TypeId} {cs : Array Value} (k : Blk w g t cs) (hne1 : 25 ≠ t) (hcs : ∀ (j : Nat) (n : Int), cs[j]? ≠ some (.int .u8 n)) (hg : w.grownBy w' (some g)) : OSls w' base v pss := by
  obtain ⟨us, k1, k2⟩ := h
  have hn : v.ownBlock ≠ some g := own_blk_ne k1.1 k hne1
  refine ⟨us, ⟨k1.1.kept hg (.inr hn), fun g' hg' => ?_⟩, ?_⟩
  · obtain ⟨cur, hc1, hc2⟩ := k1.2 g' hg'
    exact ⟨cur, (hg.block g' (k1.1.lt g' hg').2 (fun e => hn (by rw [hg', e]))).trans hc1, hc2⟩
  · have key : ∀ {us : List Value} {ps : List (List Int)}, SlAll w us ps → SlAll w' us ps := by
      intro us
      induction us with
      | nil => intro ps h; cases ps with
        | nil => trivial
        | cons _ _ => exact h.elim
      | cons u us ih => intro ps h; cases ps with
        | nil => exact h.elim
        | cons p ps => exact ⟨h.1.keepG k hcs hg, ih h.2⟩
    exact key k2
theorem OLv.keepGk {w w' : World} {base : Nat} {v : Value} {ll : List (List (List Int))} (h : OLv w base v ll) {g : Nat} {t : TypeId} {cs : Array Value} (k : Blk w g t cs) (hne : 22 ≠ t) (hne1 : 25 ≠ t) (hcs : ∀ (j : Nat) (n : Int), cs[j]? ≠ some (.int .u8 n)) (hg : w.grownBy w' (some g)) : OLv w' base v ll := by
  obtain ⟨vs, h1, h2⟩ := h
  have hn : v.ownBlock ≠ some g := own_blk_ne h1.1 k hne
  refine ⟨vs, ⟨h1.1.kept hg (.inr hn), fun g' hg' => ?_⟩, h2.mono fun u l hu => hu.keepM k hne1 hcs hg⟩
  obtain ⟨cur, hc1, hc2⟩ := h1.2 g' hg'
  exact ⟨cur, (hg.block g' (h1.1.lt g' hg').2 (fun e => hn (by rw [hg', e]))).trans hc1, hc2⟩

/-- A literal of one level. -/
theorem OLv.lit {w : World} {base : Nat} {u : Value} {l : List (List Int)} (hu : OSls w 0 u l) (hbase : base ≤ w.heap.size) : OLv (w.alloc (.cells #[u] 22)) base (.slice (some ⟨w.heap.size, 0, none⟩) 1 1) [l] := by
  have h := World.ownsRow_lit (base := base) (e := 22) (size := 1) w #[u] 1 hbase (by simp [maxLen]) (by simp)
  have hb : Below w.heap.size w (w.alloc (.cells #[u] 22)) := (Below.refl _ _).alloc (Nat.le_refl _) _
  refine ⟨[u], ⟨h, fun g hg => ?_⟩, ⟨hu.below hb, trivial⟩⟩
  have : w.heap.size = g := by simpa [Value.ownBlock] using hg
  subst this
  obtain ⟨a, c, rfl⟩ := hu.val
  exact ⟨_, heap_alloc_new w _, fun c hc => by simp at hc; subst hc; exact notB_slice _ _ _⟩

theorem only_below0 {a w w1 : World} {row : Option Nat} (h : a.grownBy w row) (hb : Below a.heap.size w w1) : a.grownBy w1 row :=
  ⟨hb.os.trans h.os, hb.tape.trans h.tape, hb.output.trans h.output, Nat.le_trans h.size hb.size, fun i hi hne => (hb.block i hi).trans (h.block i hi hne)⟩

theorem infoL : (Tryd.prog.info? 22).map (fun i => (i.zero, i.size, i.bytes)) = some (some (.slice none 0 0), 1, 24) := by kernel_rfl

theorem wpList_append_level {w : World} {ops : Array Oper} {rest : List Oper} {o : Oper} {a : Act} {Q : Exit → Act → World → Prop} (hgd : o.guard = none) (s x : Operand)
    (ho : o.op = .call { callee := .builtin .append, args := #[s, x], argTypes := #[46, 46] })
    (base : Nat) (v : Value) (ll : List (List (List Int))) (hs : a.eval s = v) (hown : OLv w base v ll)
    (b cap : Nat) (hx : a.eval x = .slice (some ⟨b, 0, none⟩) 1 cap) (u : Value) (hc : w.cell? ⟨b, 0, none⟩ = some u) (l : List (List Int)) (hu : OSls w 0 u l)
    (h63 : ll.length + 1 ≤ 5000000000000) (hbase : base ≤ w.heap.size)
    (h : ∀ v' w', OLv w' base v' (ll ++ [l]) → Below base w w' → w.grownBy w' v.ownBlock → wpList Tryd.prog ops Q rest (a.put o.dst v') w') : wpList Tryd.prog ops Q (o :: rest) a w := by
  obtain ⟨vs, h1, h2⟩ := hown
  obtain ⟨i0, hi, hz0, hz1, hz2⟩ := info_parts infoL
  obtain ⟨ua, uc, rfl⟩ := hu.val
  obtain ⟨v', w', hrun, hown', hg⟩ := run_append_ownK (P := Tryd.prog) w base 46 o.type 22 i0 (.slice none 0 0) 1 24 Tryd.underlying46 hi hz0 hz1 hz2 rfl (by decide) (by intro c hc; simp [Value.cells] at hc; subst hc; exact notB_slice _ _ _) v ll.length vs h1 ⟨b, 0, none⟩ 1 cap [.slice ua l.length uc] rfl
    (fun j y hj => by
      match j, hj with
      | 0, hj => simp at hj; subst hj; exact hc
      | j + 1, hj => simp at hj) (by simp [Value.oneCell']) (by simp [notB_slice]) (by unfold maxLen; omega) (by omega) hbase
  refine wpList_plain hgd fun K hK => ?_
  unfold Oper.wp
  simp [execOp, ho, resolve, invoke, builtin, hs, hx, hrun, Result.andThen]
  refine hK _ _ (h v' w' ⟨_, by simpa using hown', (h2.mono fun u l hu => hu.keepR h1 (by decide) hg).snoc (hu.keepR h1 (by decide) hg)⟩ ?_ hg)
  exact (Below.refl _ _).grown hg hbase (fun k hk => (h1.1.lt k hk).1)

theorem step_append_textM {w : World} {ops : Array Oper} {o : Oper} {a : Act} {K : Act → World → Prop} {Q : Exit → Act → World → Prop} {E : Prop} (hgd : o.guard = none) (s x : Operand)
    (ho : o.op = .call { callee := .builtin .append, args := #[s, x], argTypes := #[22, 22] })
    (base : Nat) (v : Value) (pss : List (List Int)) (hs : a.eval s = v) (hown : OSls w base v pss)
    (b cap : Nat) (hx : a.eval x = .slice (some ⟨b, 0, none⟩) 1 cap) (u : Value) (hc : w.cell? ⟨b, 0, none⟩ = some u) (p : List Int) (hu : Sl w u (p.map (Value.int .u8)))
    (h63 : pss.length + 1 ≤ 5000000000000) (hbase : base ≤ w.heap.size)
    (h : ∀ v' w', OSls w' base v' (pss ++ [p]) → Below base w w' → w.grownBy w' v.ownBlock → K (a.put o.dst v') w') : if Region.wanted o (yielded ops a.tmps) = true then Oper.wp Tryd.prog o a w K Q else E := by
  have hw : Region.wanted o (yielded ops a.tmps) = true := by simp [Region.wanted, hgd]
  rw [if_pos hw]
  obtain ⟨vs, h1, h2⟩ := hown
  obtain ⟨i0, hi, hz0, hz1, hz2⟩ := info_parts infoT
  obtain ⟨ua, un, uc, rfl⟩ := hu.val
  obtain ⟨v', w', hrun, hown', hg⟩ := run_append_ownK (P := Tryd.prog) w base 22 o.type 25 i0 (.slice none 0 0) 1 24 Tryd.underlying22 hi hz0 hz1 hz2 rfl (by decide) (by intro c hc; simp [Value.cells] at hc; subst hc; exact notB_slice _ _ _) v pss.length vs h1 ⟨b, 0, none⟩ 1 cap [.slice ua un uc] rfl
    (fun j y hj => by
      match j, hj with
      | 0, hj => simp at hj; subst hj; exact hc
      | j + 1, hj => simp at hj) (by simp [Value.oneCell']) (by simp [notB_slice]) (by unfold maxLen; omega) (by omega) hbase
  unfold Oper.wp execOp
  simp only [ho, resolve, invoke, builtin, Sem.run_bind, Sem.run_pure, Result.andThen_ok, List.map_toArray, List.map_cons, List.map_nil, hs, hx, hrun]
  exact h v' w' ⟨_, by simpa using hown', (h2.keepK h1 hg).snoc (hu.keepK h1 hg)⟩ ((Below.refl _ _).grown hg hbase (fun k hk => (h1.1.lt k hk).1)) hg

end Go.Proofs.YtjhannlioddkkaaDoor

namespace Go.Proofs.YtjhannlioddkkaaDoor
open Go.RowKit
set_option linter.unusedVariables false

set_option maxHeartbeats 1000000 in
theorem mpair_any (size l p : Int) (v1 v2 : Value) (b1 b2 : List Int) (w : World) (hl0 : -9223372036854775808 ≤ l) (hl1 : l ≤ 9223372036854775807) (hp0 : -9223372036854775808 ≤ p) (hp1 : p ≤ 9223372036854775807) (hB1 : IsB b1) (hB2 : IsB b2) (h1 : Sl w v1 (b1.map (Value.int .u8))) (h2 : Sl w v2 (b2.map (Value.int .u8))) (ht : Tabs w) :
    Calls Tryd.prog 147 #[.int .i64 size, .int .i64 l, .int .i64 p, v1, v2] w fun e w' => ∃ x, e = .returned x ∧ Sl w' x ((pairT size l p b1 b2).map (Value.int .u8)) ∧ Below w.heap.size w w' := by
  obtain ⟨va, vn, vc, rfl⟩ := h1.val
  obtain ⟨ua, un, uc, rfl⟩ := h2.val
  go_enter Tryd.func147, Tryd.ntmps147
  go_wp2_with fail
  refine (number_any l w hl0 hl1).mono ?_
  rintro e w2 ⟨n1, rfl, hn1, hb2⟩
  have h1 := h1.below hb2 (Nat.le_refl _)
  have h2 := h2.below hb2 (Nat.le_refl _)
  have ht := ht.below hb2
  go_wp2_with fail
  refine (number_any p w2 hp0 hp1).mono ?_
  rintro e w3 ⟨n2, rfl, hn2, hb3⟩
  have h1 := h1.below hb3 (Nat.le_refl _)
  have h2 := h2.below hb3 (Nat.le_refl _)
  have hn1 := hn1.below hb3 (Nat.le_refl _)
  have ht := ht.below hb3
  have hb3 := below_trans2 hb2 hb3
  clear hb2
  obtain ⟨a1, l1, c1, rfl⟩ := hn1.val
  obtain ⟨a2, l2, c2, rfl⟩ := hn2.val
  have hL := Sls.litA _ 25 (show SlAll w3 [.slice a1 l1 c1, .slice a2 l2 c2, .slice va vn vc, .slice ua un uc] [numI l, numI p, b1, b2] from ⟨hn1, hn2, h1, h2, trivial⟩) (by simp [maxLen])
  have hbA := hb3.alloc hb3.size (.cells #[.slice a1 l1 c1, .slice a2 l2 c2, .slice va vn vc, .slice ua un uc] 25)
  have htA := ht.below ((Below.refl _ _).alloc (Nat.le_refl _) (.cells #[.slice a1 l1 c1, .slice a2 l2 c2, .slice va vn vc, .slice ua un uc] 25))
  have HH := Lib.hid (hash_any size 9 _ _ _ (by simp) (by decide) (by decide) hL (fun p hp => by
    simp only [List.mem_cons, List.not_mem_nil, or_false] at hp
    rcases hp with rfl | rfl | rfl | rfl
    · exact numI_isB _
    · exact numI_isB _
    · exact hB1
    · exact hB2) htA)
  rw [show hashT size 9 [numI l, numI p, b1, b2] = pairT size l p b1 b2 from rfl] at HH
  clear hL htA ht h1 h2 hn1 hn2 hb3
  go_wp2_with fail
  refine HH.out.mono ?_
  rintro e w5 ⟨y, rfl, hy, hb5⟩
  have hbr := hbA.trans (hb5.mono hbA.size)
  go_wp2
  go_ret
  exact ⟨_, rfl, hy, hbr⟩

end Go.Proofs.YtjhannlioddkkaaDoor

namespace Go.Proofs.YtjhannlioddkkaaDoor
open Go.RowKit
set_option linter.unusedVariables false

def isSlV (v : Value) : Prop := ∃ a n c, v = .slice a n c
/-- What the cells of some keys are. -/
abbrev keyCells (n h : Nat) (sv : Value) (d m : Int) (lv : Value) : Array Value := #[.int .i64 n, .int .i64 h, sv, .int .u32 d, .int .i32 m, .int .u32 0, lv]
theorem keys_noB {n h : Nat} {sv lv : Value} {d m : Int} (h1 : isSlV sv) (h2 : isSlV lv) : ∀ (j : Nat) (x : Int), (keyCells n h sv d m lv)[j]? ≠ some (.int .u8 x) := by
  obtain ⟨_, _, _, rfl⟩ := h1
  obtain ⟨_, _, _, rfl⟩ := h2
  intro j x e
  match j, e with
  | 0, e => simp at e
  | 1, e => simp at e
  | 2, e => simp at e
  | 3, e => simp at e
  | 4, e => simp at e
  | 5, e => simp at e
  | 6, e => simp at e
  | j + 7, e => simp at e
theorem Tabs.keepG {w w' : World} (h : Tabs w) {g : Nat} {t : TypeId} {cs : Array Value} (k : Blk w g t cs) {n : Int} (h0 : cs[0]? = some (.int .i64 n)) (hg : w.grownBy w' (some g)) : Tabs w' := by
  have n0 : 1 ≠ g := by
    rintro rfl
    have := h.first 0 (by omega)
    rw [k.cell, h0] at this
    injection this with this
    injection this with this _
    cases this
  have n1 : 2 ≠ g := by
    rintro rfl
    have := h.added 0 (by omega)
    rw [k.cell, h0] at this
    injection this with this
    injection this with this _
    cases this
  exact ⟨Nat.lt_of_lt_of_le h.lt0 hg.size, Nat.lt_of_lt_of_le h.lt1 hg.size, fun j hj => (hg.cell_far ⟨_, j, none⟩ h.lt0 (by simpa using n0)).trans (h.first j hj), fun j hj => (hg.cell_far ⟨_, j, none⟩ h.lt1 (by simpa using n1)).trans (h.added j hj)⟩

theorem set_onlyG (w : World) (g i : Nat) (u : Value) : w.grownBy (w.setCell ⟨g, i, none⟩ u) (some g) := only_setCell (World.grownBy.refl w (some g)) (Or.inl rfl) u
theorem OSls.get {w : World} {base : Nat} {a : Option Addr} {m cap : Nat} {pss : List (List Int)} (h : OSls w base (.slice a m cap) pss) {k : Nat} (hk : k < pss.length) :
    ∃ b off u, a = some ⟨b, off, none⟩ ∧ b < w.heap.size ∧ w.cell? ⟨b, off + k, none⟩ = some u ∧ Sl w u ((pss.getD k []).map (Value.int .u8)) := by
  obtain ⟨vs, h1, h2⟩ := h
  have hkl : k < vs.length := by rw [h2.len]; exact hk
  obtain ⟨b, off, rfl, hb, hc⟩ := (Sl.of_owns h1.1).addr (by omega)
  have hu : vs[k]? = some vs[k] := List.getElem?_eq_getElem hkl
  refine ⟨b, off, vs[k], rfl, hb, hc k _ hu, ?_⟩
  rw [List.getD_eq_getElem?_getD, List.getElem?_eq_getElem hk]
  exact h2.at k _ _ hu (List.getElem?_eq_getElem hk)

set_option maxRecDepth 100000 in
set_option maxHeartbeats 4000000 in
theorem build_any (n h : Nat) (g : Nat) (seed : List Int) (sv : Value) (w : World) (hn : n ≤ 32) (hh : h ≤ 8) (hB : IsB seed) (hk : Blk w g 156 (keyCells n h sv 0 1 (.slice none 0 0))) (hs : Sl w sv (seed.map (Value.int .u8))) (ht : Tabs w) :
    Calls Tryd.prog 122 #[.pointer (some ⟨g, 0, none⟩)] w fun e w' => e = .returned (.tuple #[]) ∧ ∃ lv, Blk w' g 156 (keyCells n h sv 0 1 lv) ∧ OLv w' 0 lv (lvsI n seed h (h + 1)) ∧ w.grownBy w' (some g) := by
  obtain ⟨va, vn, vc, rfl⟩ := hs.val
  obtain ⟨H, hH⟩ : ∃ H : Nat, H = 2 ^ h := ⟨_, rfl⟩
  have hH1 : 1 ≤ H ∧ H ≤ 256 := by rw [hH]; exact ⟨Nat.one_le_two_pow, Nat.pow_le_pow_right (by omega) hh⟩
  have hW : wrap64 ((2 : Int) ^ h) = (H : Int) := by
    rw [show ((2 : Int) ^ h) = ((2 ^ h : Nat) : Int) by simp, ← hH]; unfold wrap64; omega
  have HH := Lib.hid hH
  clear hH
  have c0 := hk.cell 0
  have c1 := hk.cell 1
  have c2 := hk.cell 2
  have c6 := hk.cell 6
  have f6 := hk.frozen 6
  simp [keyCells] at c0 c1 c2 c6
  have HS := Lib.hid (fun w' (q : Below w.heap.size w w') => hs.below q (Nat.le_refl _))
  have HT := Lib.hid (fun w' (q : Below w.heap.size w w') => ht.below q)
  have HK := Lib.hid (fun w' (q : Below w.heap.size w w') => hk.belowS q)
  have HTW := Lib.hid ht
  have HK0 := Lib.hid hk
  have HSW := Lib.hid hs
  have HNB := Lib.hid (fun (lv : Value) (q : isSlV lv) => keys_noB (n := n) (h := h) (sv := .slice va vn vc) (d := 0) (m := 1) (lv := lv) ⟨_, _, _, rfl⟩ q)
  clear hk hs ht
  go_enter Tryd.func122, Tryd.ntmps122
  go_wp2
  rw [hW]
  go_loopw [2, 14] (fun l i wr => ∃ (k : Nat) (lv : Value), lv = l ∧ k ≤ H ∧ i = .int .i64 k ∧ OSls wr w.heap.size lv (botI n seed k) ∧ Below w.heap.size w wr) (fun _ i _ => H - (intOf i).toNat)
  case atStart => exact ⟨0, _, rfl, by omega, rfl, OSls.nil _ _, Below.refl _ _⟩
  case round =>
    obtain ⟨k, lv, rfl, hkb, rfl, hO, hbr⟩ := hrel
    have kr := HK.out _ hbr
    have c0 : wr.cell? ⟨g, 0, none⟩ = some (.int .i64 n) := kr.cell 0
    have c2 : wr.cell? ⟨g, 2, none⟩ = some (.slice va vn vc) := kr.cell 2
    obtain ⟨la, lc, rfl⟩ := hO.val
    rw [botI_len] at hO ⊢
    by_cases hlt : k < H
    · have hkI : (k : Int) < (H : Int) := by omega
      have HKY := Lib.hid (fun w' (q : Below wr.heap.size wr w') => key_any (n : Int) (.slice va vn vc) seed k w' (by omega) (by omega) hB ((HS.out _ hbr).below q (Nat.le_refl _)) ((HT.out _ hbr).below q))
      have HKR := Lib.hid (fun w' (q : Below wr.heap.size wr w') => show w'.cell? ⟨g, 0, none⟩ = some (.int .i64 n) ∧ w'.cell? ⟨g, 2, none⟩ = some (.slice va vn vc) from ⟨(kr.belowS q).cell 0, (kr.belowS q).cell 2⟩)
      have hG := Lib.hid (HKR.out _ (Below.refl _ _))
      have HO := Lib.hid hO
      have HBR := Lib.hid hbr
      clear kr c0 c2 hO hbr
      go_wp2
      go_region_held3 (fun w' => w'.cell? ⟨g, 0, none⟩ = some (.int .i64 n) ∧ w'.cell? ⟨g, 2, none⟩ = some (.slice va vn vc)) (exact hG.out) (first | (go_at_call 146; refine (HKY.out _ (by first | exact Below.refl _ _ | exact (Below.refl _ _).drew)).mono ?_; rintro e w2 ⟨x2, rfl, hx2, hb2⟩; have hb2 : Below wr.heap.size wr w2 := ⟨hb2.os, hb2.tape, hb2.output, hb2.size, hb2.block⟩; have hG := Lib.hid (HKR.out _ hb2)))
      have hbr := HBR.out
      have hO := HO.out.below hb2
      have hbr := hbr.trans (hb2.mono hbr.size)
      obtain ⟨a2, l2, c2, rfl⟩ := hx2.val
      have hbA : Below w2.heap.size w2 (w2.alloc (.cells #[.slice a2 l2 c2] 25)) := (Below.refl _ _).alloc (Nat.le_refl _) _
      have HLN := Lib.hid (show (botI (n : Int) seed k).length + 1 ≤ 5000000000000 by rw [botI_len]; omega)
      have HSN := Lib.hid (botI_succ (n : Int) seed k)
      have hO := hO.below hbA
      have hx2 := hx2.below hbA (Nat.le_refl _)
      have hbr := hbr.trans (hbA.mono hbr.size)
      have hc2 := (Blk.new w2 25 #[.slice a2 l2 c2]).cell 0
      clear hb2 hbA hG HKR HKY
      go_wp2_with (at_builtin; refine wpList_append_text rfl _ _ rfl w.heap.size _ _ rfl hO w2.heap.size 1 rfl (.slice a2 l2 c2) hc2 _ hx2 HLN.out hbr.size ?_)
      intro l5 w5 hO5 hb5 hg5
      have hbr := hbr.trans hb5
      clear hg5 hb5 hO hx2 hc2
      go_wp2
      go_roundw
      case rel => exact ⟨k + 1, l5, rfl, by omega, by go_num, by rw [HSN.out]; exact hO5, hbr⟩
      case measure => simp [intOf]; omega
    · obtain rfl : k = H := by omega
      have hkI : ¬ (k : Int) < (k : Int) := by omega
      have hbA : Below wr.heap.size wr (wr.alloc (.cells #[.slice la k lc] 22)) := (Below.refl _ _).alloc (Nat.le_refl _) _
      have kA := kr.belowS hbA
      have cA : (wr.alloc (.cells #[.slice la k lc] 22)).cell? ⟨g, 6, none⟩ = some (.slice none 0 0) := kA.cell 6
      have fA : (wr.alloc (.cells #[.slice la k lc] 22)).frozen? ⟨g, 6, none⟩ = false := kA.frozen 6
      have hW0 := OLv.lit (base := w.heap.size) (hO.base (Nat.zero_le _)) hbr.size
      have hOA := (hO.below hbA).base (Nat.zero_le _)
      have gS := set_onlyG (wr.alloc (.cells #[.slice la k lc] 22)) g 6 (.slice (some ⟨wr.heap.size, 0, none⟩) 1 1)
      have nb0 := HNB.out (.slice none 0 0) ⟨_, _, _, rfl⟩
      have kS := kA.set_ 6 (.slice (some ⟨wr.heap.size, 0, none⟩) 1 1)
      have hWS := hW0.keepGk kA (by decide) (by decide) nb0 gS
      have hOS := OSls.keepM hOA kA (by decide) nb0 gS
      have hGS : w.grownBy ((wr.alloc (.cells #[.slice la k lc] 22)).setCell ⟨g, 6, none⟩ (.slice (some ⟨wr.heap.size, 0, none⟩) 1 1)) (some g) := only_setCell (only_below (only_of_below hbr _) hbA) (Or.inl rfl) _
      rw [show botI (n : Int) seed k = lvI n seed h 0 by rw [HH.out]; rfl] at hOS hWS
      clear hW0 hOA gS nb0 hO hbr kr
      go_wp2
      generalize ((wr.alloc (.cells #[.slice la k lc] 22)).setCell ⟨g, 6, none⟩ (.slice (some ⟨wr.heap.size, 0, none⟩) 1 1)) = wx at *
      clear kA cA fA hbA
      clear c0 c2
      go_loopw [2, 6] (fun lx ix wy => ∃ (j : Nat) (lv vv : Value), lv = lx ∧ j ≤ h ∧ ix = .int .i64 ((j : Int) + 1) ∧ OSls wy 0 lv (lvI n seed h j) ∧ Blk wy g 156 (keyCells n h (.slice va vn vc) 0 1 vv) ∧ OLv wy w.heap.size vv (lvsI n seed h (j + 1)) ∧ w.grownBy wy (some g)) (fun _ i _ => 10 - (intOf i).toNat)
      case atStart => exact ⟨0, _, _, rfl, by omega, rfl, hOS, kS, hWS, hGS⟩
      case round =>
        clear hOS kS hWS hGS
        obtain ⟨j, lv, vv, rfl, hj, rfl, hO, kr, hV, hgr⟩ := hrel
        generalize wr = wo at *
        have c1 : wo.cell? ⟨g, 1, none⟩ = some (.int .i64 h) := kr.cell 1
        obtain ⟨la, lc, rfl⟩ := hO.val
        by_cases hlt : j < h
        · obtain ⟨P, hP⟩ : ∃ P : Nat, P = 2 ^ (h - (j + 1)) := ⟨_, rfl⟩
          have hPb : 1 ≤ P ∧ P ≤ 256 := by rw [hP]; exact ⟨Nat.one_le_two_pow, Nat.le_trans (Nat.pow_le_pow_right (by omega) (show h - (j + 1) ≤ 8 by omega)) (by decide)⟩
          have HLE := Lib.hid (show (lvI (n : Int) seed h j).length = 2 * P by rw [lvI_len, two_half h j hlt, ← hP])
          have HUP := Lib.hid (show upI (n : Int) ((j + 1 : Nat) : Int) (lvI (n : Int) seed h j) P = lvI (n : Int) seed h (j + 1) by rw [lvI, hP])
          have HLB := Lib.hid (lvI_isB (n : Int) seed h j)
          rw [HLE.out] at hO ⊢
          have HLV := Lib.hid (show lvsI (n : Int) seed h (j + 1 + 1) = lvsI (n : Int) seed h (j + 1) ++ [lvI (n : Int) seed h (j + 1)] from lvsI_succ _ _ _ _)
          generalize hL1 : lvI (n : Int) seed h (j + 1) = L1 at *
          have HL1 := Lib.hid hL1
          clear hL1
          generalize lvI (n : Int) seed h j = L at *
          clear hP
          have hjI : (j : Int) + 1 ≤ (h : Int) := by omega
          have HO := Lib.hid hO
          have HKO := Lib.hid kr
          clear hO kr
          go_wp2
          go_loopw [7, 51] (fun ux ix wy => ∃ (p : Nat) (uv : Value), uv = ux ∧ p ≤ P ∧ ix = .int .i64 p ∧ OSls wy wo.heap.size uv (upI (n : Int) ((j + 1 : Nat) : Int) L p) ∧ Below wo.heap.size wo wy) (fun _ i _ => P - (intOf i).toNat)
          case atStart => exact ⟨0, _, rfl, by omega, rfl, OSls.nil _ _, Below.refl _ _⟩
          case round =>
            obtain ⟨p, uv, rfl, hp, rfl, hU, hbr⟩ := hrel
            obtain ⟨ua, uc, rfl⟩ := hU.val
            rw [upI_len] at hU ⊢
            have kr := HKO.out.belowS hbr
            have c0 : wr.cell? ⟨g, 0, none⟩ = some (.int .i64 n) := kr.cell 0
            by_cases hlp : p < P
            · have hpI : (p : Int) < (P : Int) := by omega
              have hO := OSls.below HO.out hbr
              obtain ⟨q, hq⟩ : ∃ q : Nat, q = 2 * p := ⟨_, rfl⟩
              obtain ⟨r, hr⟩ : ∃ r : Nat, r = 2 * p + 1 := ⟨_, rfl⟩
              obtain ⟨b, off, u1, rfl, hbl, cu1, su1⟩ := OSls.get hO (k := q) (by rw [HLE.out]; omega)
              obtain ⟨b', off', u2, he, _, cu2, su2⟩ := OSls.get hO (k := r) (by rw [HLE.out]; omega)
              cases he
              have e1 : IntKind.i64.wrap (2 * (p : Int)) = (q : Int) := by rw [IntKind.wrap_i64]; omega
              have e2 : IntKind.i64.wrap ((q : Int) + 1) = (r : Int) := by rw [IntKind.wrap_i64]; omega
              have e3 : (q : Int) < 2 * (P : Int) := by omega
              have e4 : (r : Int) < 2 * (P : Int) := by omega
              have e5 : q < 2 * P := by omega
              have e6 : r < 2 * P := by omega
              have HST := Lib.hid (show upI (n : Int) ((j + 1 : Nat) : Int) L (p + 1) = upI (n : Int) ((j + 1 : Nat) : Int) L p ++ [pairT (n : Int) ((j : Int) + 1) p (L.getD q []) (L.getD r [])] by rw [upI_succ, hq, hr]; rfl)
              have HB1 := Lib.hid (HLB.out _ (getD_mem (l := L) (k := q) (by rw [HLE.out]; omega)))
              have HB2 := Lib.hid (HLB.out _ (getD_mem (l := L) (k := r) (by rw [HLE.out]; omega)))
              have HLN := Lib.hid (show (upI (n : Int) ((j + 1 : Nat) : Int) L p).length + 1 ≤ 5000000000000 by rw [upI_len]; omega)
              generalize L.getD q [] = X1 at *
              generalize L.getD r [] = X2 at *
              generalize upI (n : Int) ((j + 1 : Nat) : Int) L p = UP at *
              obtain ⟨x1, y1, z1, rfl⟩ := su1.val
              obtain ⟨x2, y2, z2, rfl⟩ := su2.val
              have HX := Lib.hid (fun w' (h' : Below wr.heap.size wr w') => mpair_any (n : Int) ((j : Int) + 1) p _ _ X1 X2 w' (by omega) (by omega) (by omega) (by omega) HB1.out HB2.out (su1.below h' (Nat.le_refl _)) (su2.below h' (Nat.le_refl _)) (((HTW.out.keepG HK0.out (n := n) rfl hgr).below hbr).below h'))
              have HUK := Lib.hid (fun w' (h' : Below wr.heap.size wr w') => hU.below h')
              have hsz := hbr.size
              have HBR := Lib.hid hbr
              clear hq hr su1 su2 hU hO kr hbr
              go_wp2
              go_region_law (first
                | (refine step_append_textM rfl (.tmp 54) (.tmp 73) rfl wo.heap.size _ UP rfl hU3 w2.heap.size 1 rfl (.slice xa xn xc) hc2 _ hx2 HLN.out (Nat.le_trans hsz (Nat.le_trans hsz2 hbA.size)) ?_; intro l5 w5 hO5 hb5 hg5)
                | (go_simp; go_at_call 147; refine (HX.out _ (by first | exact Below.refl _ _ | exact (Below.refl _ _).drew)).mono ?_; rintro e w2 ⟨x9, rfl, hx1, hb2⟩; obtain ⟨xa, xn, xc, rfl⟩ := hx1.val; have hb2 : Below wr.heap.size wr w2 := ⟨hb2.os, hb2.tape, hb2.output, hb2.size, hb2.block⟩; have hsz2 : wr.heap.size ≤ w2.heap.size := hb2.size; have hU2 := HUK.out _ hb2; have hbA : Below w2.heap.size w2 (w2.alloc (.cells #[.slice xa xn xc] 25)) := (Below.refl _ _).alloc (Nat.le_refl _) _; have hU3 := hU2.below hbA; have hx2 := hx1.below hbA (Nat.le_refl _); have hc2 := (Blk.new w2 25 #[.slice xa xn xc]).cell 0))
              all_goals
                have hbr5 := HBR.out.trans ((hb2.mono HBR.out.size).trans ((hbA.mono (Nat.le_trans HBR.out.size hb2.size)).trans hb5))
                rw [← HST.out] at hO5
                clear hb5 hg5 hb2 hbA hU2 hU3 hx1 hx2 hc2 HX HUK
                go_wp2
                exact ⟨⟨p + 1, l5, rfl, by omega, by go_num, hO5, hbr5⟩, by simp [intOf]; omega⟩
            · obtain rfl : p = P := by omega
              have hpI : ¬ (p : Int) < (p : Int) := by omega
              have HWV := Lib.hid (hV.below hbr)
              obtain ⟨vb, vd, rfl⟩ := hV.val
              rw [lvsI_len] at *
              have hU0 := OSls.base hU (Nat.zero_le _)
              rw [HUP.out] at hU0
              have hbA : Below wr.heap.size wr (wr.alloc (.cells #[.slice ua p uc] 22)) := (Below.refl _ _).alloc (Nat.le_refl _) _
              have kA := kr.belowS hbA
              have c6 : wr.cell? ⟨g, 6, none⟩ = some (.slice vb (j + 1) vd) := kr.cell 6
              have HVA := Lib.hid (HWV.out.below hbA)
              have hUA := hU0.below hbA
              have cNew := (Blk.new wr 22 #[.slice ua p uc]).cell 0
              clear hU0 hU
              have hszA : w.heap.size ≤ (wr.alloc (.cells #[.slice ua p uc] 22)).heap.size := Nat.le_trans (Nat.le_trans hgr.size hbr.size) hbA.size
              have hGA := only_below (only_below hgr hbr) hbA
              go_wp2_with (at_builtin; refine wpList_append_level rfl _ _ rfl w.heap.size _ _ rfl HVA.out wr.heap.size 1 rfl (.slice ua p uc) cNew _ hUA (by rw [lvsI_len]; omega) hszA ?_)
              intro v5 w5 hV5 hb5 hg5
              have hG5 := only_below0 hGA hb5
              obtain ⟨vs, hv1, hv2⟩ := HVA.out
              have k5 := kA.grown hg5 (Ne.symm (own_blk_ne hv1.1 kA (by decide)))
              have hU5 := OSls.keepR hUA hv1 (by decide) hg5
              rw [← HLV.out] at hV5
              obtain ⟨va5, vc5, rfl⟩ := hV5.val
              rw [lvsI_len] at hV5 ⊢
              have q6 : w5.cell? ⟨g, 6, none⟩ = some (.slice vb (j + 1) vd) := k5.cell 6
              have f65 := k5.frozen 6
              have nb5 := HNB.out (.slice vb (j + 1) vd) ⟨_, _, _, rfl⟩
              have gS := set_onlyG w5 g 6 (.slice va5 (j + 1 + 1) vc5)
              have hVS := hV5.keepGk k5 (by decide) (by decide) nb5 gS
              have hUS := OSls.keepM hU5 k5 (by decide) nb5 gS
              have kS := k5.set_ 6 (.slice va5 (j + 1 + 1) vc5)
              have hGS := only_setCell (p := ⟨g, 6, none⟩) hG5 (Or.inl rfl) (.slice va5 (j + 1 + 1) vc5)
              clear hv1 hv2 hg5 hb5 hV5 hU5 hUA hGA hG5 gS nb5 kA hbA k5 cNew
              go_wp2
              exact ⟨⟨j + 1, _, _, rfl, by omega, by go_num, by rw [HL1.out]; exact hUS, kS, hVS, hGS⟩, by simp [intOf]; omega⟩
        · obtain rfl : j = h := by omega
          have hjI : ¬ (j : Int) + 1 ≤ (j : Int) := by omega
          go_wp2
          go_end0
          exact ⟨rfl, vv, kr, hV.base (Nat.zero_le _), hgr⟩

end Go.Proofs.YtjhannlioddkkaaDoor

namespace Go.Proofs.YtjhannlioddkkaaDoor
open Go.RowKit
set_option linter.unusedVariables false

set_option maxRecDepth 100000 in
set_option maxHeartbeats 4000000 in
theorem slow_build (n h : Nat) (g : Nat) (seed : List Int) (sv : Value) (w : World) (hn : n ≤ 32) (hh : h ≤ 8) (hB : IsB seed) (hk : Blk w g 156 (keyCells n h sv 0 0 (.slice none 0 0))) (hs : Sl w sv (seed.map (Value.int .u8))) (ht : Tabs w) :
    Calls Tryd.prog 145 #[.pointer (some ⟨g, 3, none⟩), .func (.func 122) #[.pointer (some ⟨g, 0, none⟩)] #[]] w fun e w' => e = .returned (.tuple #[]) ∧ ∃ lv, Blk w' g 156 (keyCells n h sv 1 0 lv) ∧ OLv w' 0 lv (lvsI n seed h (h + 1)) ∧ w.grownBy w' (some g) := by
  have c3 : w.cell? ⟨g, 3, none⟩ = some (.int .u32 0) := hk.cell 3
  have c4 : w.cell? ⟨g, 4, none⟩ = some (.int .i32 0) := hk.cell 4
  have f3 := hk.frozen 3
  have f4 := hk.frozen 4
  have k1 : Blk (w.setCell ⟨g, 4, none⟩ (.int .i32 1)) g 156 (keyCells n h sv 0 1 (.slice none 0 0)) := hk.set_ 4 _
  have hsv : isSlV sv := by obtain ⟨a, m, c, e⟩ := hs.val; exact ⟨a, m, c, e⟩
  have hg1 := set_onlyG w g 4 (.int .i32 1)
  have HB := Lib.hid (build_any n h g seed sv _ hn hh hB k1 (hs.keepG hk (keys_noB hsv ⟨_, _, _, rfl⟩) hg1) (ht.keepG hk (n := n) rfl hg1))
  have HG1 := Lib.hid hg1
  have HSV := Lib.hid hsv
  have c31 : (w.setCell ⟨g, 4, none⟩ (.int .i32 1)).cell? ⟨g, 3, none⟩ = some (.int .u32 0) := k1.cell 3
  have hl := run_call_load (P := Tryd.prog) Tryd.func178 (by kernel_rfl) (by kernel_rfl) (by kernel_rfl) .u32 (by kernel_rfl) c31
  have hnot : ∀ (x : Bool) (w : World), (Op.unary .not (.bool x)).run Tryd.prog w = .ok (.bool (!x)) w := fun _ _ => rfl
  clear hk hs ht hg1 hsv k1
  go_enter_defers Tryd.func145, Tryd.ntmps145
  go_wp2_with (go_at_call 179; refine (lock_free ⟨g, 4, none⟩ _ c4 f4).mono ?_; rintro e w' ⟨rfl, rfl⟩)
  generalize (w.setCell ⟨g, 4, none⟩ (.int .i32 1)) = w1 at *
  go_wp2_with (first | (go_at_call 122; refine HB.out.mono ?_; rintro e w2 ⟨rfl, lv, k2, hO2, hg2⟩) | (go_at_call 144; go_in))
  have q3 : w2.cell? ⟨g, 3, none⟩ = some (.int .u32 0) := k2.cell 3
  have z3 : w2.frozen? ⟨g, 3, none⟩ = false := k2.frozen 3
  have k3 : Blk (w2.drew.setCell ⟨g, 3, none⟩ (.int .u32 1)) g 156 (keyCells n h sv 1 1 lv) := k2.drew.set_ 3 _
  have q4 : (w2.drew.setCell ⟨g, 3, none⟩ (.int .u32 1)).cell? ⟨g, 4, none⟩ = some (.int .i32 1) := k3.cell 4
  have z4 : (w2.drew.setCell ⟨g, 3, none⟩ (.int .u32 1)).frozen? ⟨g, 4, none⟩ = false := k3.frozen 4
  have k4 : Blk ((w2.drew.setCell ⟨g, 3, none⟩ (.int .u32 1)).setCell ⟨g, 4, none⟩ (.int .i32 0)) g 156 (keyCells n h sv 1 0 lv) := k3.set_ 4 _
  have hlv : isSlV lv := by obtain ⟨a, c, e⟩ := hO2.val; exact ⟨a, _, c, e⟩
  have gA : w2.grownBy ((w2.drew.setCell ⟨g, 3, none⟩ (.int .u32 1)).setCell ⟨g, 4, none⟩ (.int .i32 0)) (some g) := only_setCell (p := ⟨g, 4, none⟩) (only_setCell (p := ⟨g, 3, none⟩) (only_drew (World.grownBy.refl w2 (some g))) (Or.inl rfl) _) (Or.inl rfl) _
  have hO4 := hO2.keepGk k2 (by decide) (by decide) (keys_noB HSV.out hlv) gA
  have hgE : w.grownBy ((w2.drew.setCell ⟨g, 3, none⟩ (.int .u32 1)).setCell ⟨g, 4, none⟩ (.int .i32 0)) (some g) := only_setCell (p := ⟨g, 4, none⟩) (only_setCell (p := ⟨g, 3, none⟩) (only_drew (HG1.out.trans hg2)) (Or.inl rfl) _) (Or.inl rfl) _
  have HE := Lib.hid (show ∃ lv, Blk ((w2.drew.setCell ⟨g, 3, none⟩ (.int .u32 1)).setCell ⟨g, 4, none⟩ (.int .i32 0)) g 156 (keyCells n h sv 1 0 lv) ∧ OLv ((w2.drew.setCell ⟨g, 3, none⟩ (.int .u32 1)).setCell ⟨g, 4, none⟩ (.int .i32 0)) 0 lv (lvsI n seed h (h + 1)) ∧ w.grownBy ((w2.drew.setCell ⟨g, 3, none⟩ (.int .u32 1)).setCell ⟨g, 4, none⟩ (.int .i32 0)) (some g) from ⟨lv, k4, hO4, hgE⟩)
  clear k3 k4 gA hO4 hgE hO2 hg2 k2
  first | go_end0 | go_wp2
  refine leaves_cons (f := 181) (args := #[.pointer (some ⟨g, 3, none⟩), .bool true]) (by simp) (by simp [go_sem]) ?_
  refine (store_deferred ⟨g, 3, none⟩ (.int .u32 0) .returning _ q3 z3).mono ?_
  rintro e u' w'' ⟨rfl, rfl, rfl⟩
  refine leaves_cons (f := 180) (args := #[.pointer (some ⟨g, 4, none⟩)]) (by simp [settle]) (by simp [go_sem]) ?_
  refine (unlock_deferred ⟨g, 4, none⟩ _ _ q4 z4).mono ?_
  rintro e u' w'' ⟨rfl, rfl, rfl⟩
  simp [Leaves, settle, results, Tryd.results145]
  exact HE.out

end Go.Proofs.YtjhannlioddkkaaDoor

namespace Go.Proofs.YtjhannlioddkkaaDoor
open Go.RowKit
set_option linter.unusedVariables false

/-- Some keys of a seed: their hashes are reckoned, or not yet. -/
def MKB (w : World) (g n h : Nat) (seed : List Int) : Prop := ∃ sv lv, Sl w sv (seed.map (Value.int .u8)) ∧ Blk w g 156 (keyCells n h sv 1 0 lv) ∧ OLv w 0 lv (lvsI n seed h (h + 1))
def MK (w : World) (g n h : Nat) (seed : List Int) : Prop := MKB w g n h seed ∨ ∃ sv, Sl w sv (seed.map (Value.int .u8)) ∧ Blk w g 156 (keyCells n h sv 0 0 (.slice none 0 0))
theorem MKB.below {w w' : World} {g n h : Nat} {seed : List Int} (k : MKB w g n h seed) (hb : Below w.heap.size w w') : MKB w' g n h seed := by
  obtain ⟨sv, lv, h1, h2, h3⟩ := k
  exact ⟨sv, lv, h1.below hb (Nat.le_refl _), h2.belowS hb, h3.below hb⟩
theorem MK.below {w w' : World} {g n h : Nat} {seed : List Int} (k : MK w g n h seed) (hb : Below w.heap.size w w') : MK w' g n h seed := by
  rcases k with k | ⟨sv, h1, h2⟩
  · exact .inl (k.below hb)
  · exact .inr ⟨sv, h1.below hb (Nat.le_refl _), h2.belowS hb⟩
theorem MK.blk {w : World} {g n h : Nat} {seed : List Int} (k : MK w g n h seed) : ∃ sv d lv, isSlV sv ∧ isSlV lv ∧ Sl w sv (seed.map (Value.int .u8)) ∧ Blk w g 156 (keyCells n h sv d 0 lv) := by
  rcases k with ⟨sv, lv, h1, h2, h3⟩ | ⟨sv, h1, h2⟩
  · obtain ⟨a, m, c, e⟩ := h1.val
    obtain ⟨a2, c2, e2⟩ := h3.val
    exact ⟨sv, _, lv, ⟨a, m, c, e⟩, ⟨a2, _, c2, e2⟩, h1, h2⟩
  · obtain ⟨a, m, c, e⟩ := h1.val
    exact ⟨sv, _, _, ⟨a, m, c, e⟩, ⟨_, _, _, rfl⟩, h1, h2⟩

set_option maxRecDepth 100000 in
set_option maxHeartbeats 2000000 in
theorem once_any (n h : Nat) (g : Nat) (seed : List Int) (w : World) (hn : n ≤ 32) (hh : h ≤ 8) (hB : IsB seed) (hk : MK w g n h seed) (ht : Tabs w) :
    Calls Tryd.prog 121 #[.pointer (some ⟨g, 3, none⟩), .func (.func 122) #[.pointer (some ⟨g, 0, none⟩)] #[]] w fun e w' => e = .returned (.tuple #[]) ∧ MKB w' g n h seed ∧ w.grownBy w' (some g) := by
  have hnot : ∀ (x : Bool) (w : World), (Op.unary .not (.bool x)).run Tryd.prog w = .ok (.bool (!x)) w := fun _ _ => rfl
  rcases hk with hk | ⟨sv, hs, hk⟩
  · have HK := Lib.hid hk
    obtain ⟨sv, lv, h1, h2, h3⟩ := hk
    have c3 : w.cell? ⟨g, 3, none⟩ = some (.int .u32 1) := h2.cell 3
    have hl := run_call_load (P := Tryd.prog) Tryd.func178 (by kernel_rfl) (by kernel_rfl) (by kernel_rfl) .u32 (by kernel_rfl) c3
    clear h1 h2 h3
    go_enter Tryd.func121, Tryd.ntmps121
    go_wp2
    go_end0
    exact ⟨rfl, HK.out, World.grownBy.refl _ _⟩
  · have HS := Lib.hid (slow_build n h g seed sv w hn hh hB hk hs ht)
    have hsv : isSlV sv := by obtain ⟨a, m, c, e⟩ := hs.val; exact ⟨a, m, c, e⟩
    have HSS := Lib.hid (fun w' (q : w.grownBy w' (some g)) => hs.keepG hk (keys_noB hsv ⟨_, _, _, rfl⟩) q)
    have c3 : w.cell? ⟨g, 3, none⟩ = some (.int .u32 0) := hk.cell 3
    have hl := run_call_load (P := Tryd.prog) Tryd.func178 (by kernel_rfl) (by kernel_rfl) (by kernel_rfl) .u32 (by kernel_rfl) c3
    clear hk hs ht
    go_enter Tryd.func121, Tryd.ntmps121
    go_wp2_with (first | (go_at_call 145; refine HS.out.mono ?_; rintro e w2 ⟨rfl, lv, k2, hO2, hg2⟩) | (go_at_call 144; go_in))
    go_end0
    exact ⟨rfl, ⟨sv, lv, HSS.out _ hg2, k2, hO2⟩, hg2⟩

theorem mnone_any (g n h : Nat) (seed : List Int) (w : World) (hn : 1 ≤ n) (hk : MK w g n h seed) :
    Calls Tryd.prog 93 #[.pointer (some ⟨g, 0, none⟩)] w fun e w' => e = .returned (.bool false) ∧ w = w' := by
  obtain ⟨sv, d, lv, _, _, _, k⟩ := hk.blk
  have c0 : w.cell? ⟨g, 0, none⟩ = some (.int .i64 n) := k.cell 0
  have hn0 : ¬ n = 0 := by omega
  have hnI : ((n : Int) == 0) = false := by simp; omega
  clear k
  go_enter Tryd.func93, Tryd.ntmps93
  go_wp2
  go_ret
  exact ⟨rfl, rfl⟩

set_option maxRecDepth 100000 in
set_option maxHeartbeats 2000000 in
theorem at_any (n h : Nat) (g l p : Nat) (seed : List Int) (w : World) (hn : n ≤ 32) (hh : h ≤ 8) (hB : IsB seed) (hk : MK w g n h seed) (ht : Tabs w) (hl : l ≤ h) (hp : p < 2 ^ (h - l)) :
    Calls Tryd.prog 94 #[.pointer (some ⟨g, 0, none⟩), .int .i64 l, .int .i64 p] w fun e w' => ∃ x, e = .returned x ∧ Sl w' x (((lvI n seed h l).getD p []).map (Value.int .u8)) ∧ MKB w' g n h seed ∧ w.grownBy w' (some g) := by
  have hmf : ∀ (fn : Fn) (first cap : Array Value) (w : World), (Instr.makeFunc fn first cap).run Tryd.prog w = .ok (.func fn first cap) w := fun _ _ _ _ => rfl
  have HO := Lib.hid (once_any n h g seed w hn hh hB hk ht)
  clear hk ht
  go_enter Tryd.func94, Tryd.ntmps94
  go_wp2_with fail
  refine HO.out.mono ?_
  rintro e w2 ⟨rfl, hk2, hg2⟩
  have HK2 := Lib.hid hk2
  obtain ⟨sv, lv, h1, h2, h3⟩ := hk2
  obtain ⟨va, vc, rfl⟩ := h3.val
  rw [lvsI_len] at *
  obtain ⟨b, off, u, rfl, hb, hcu, hu⟩ := h3.at (k := l) (lvsI_get n seed h (h + 1) l (by omega))
  obtain ⟨ua, uc, rfl⟩ := hu.val
  have HLN := Lib.hid (lvI_len n seed h l)
  have HSH := Lib.hid (lvI_short n seed h l)
  obtain ⟨b2, off2, u2, rfl, hb2, hcu2, hu2⟩ := OSls.get hu (k := p) (by rw [HLN.out]; exact hp)
  have hxl := HSH.out _ (getD_mem (l := lvI n seed h l) (k := p) (by rw [HLN.out]; exact hp))
  rw [HLN.out] at *
  generalize hX : (lvI (n : Int) seed h l).getD p [] = X at *
  have HX := Lib.hid hX
  clear hX
  generalize 2 ^ (h - l) = M at *
  have c6 : w2.cell? ⟨g, 6, none⟩ = some (.slice (some ⟨b, off, none⟩) (h + 1) vc) := h2.cell 6
  have hlI : (l : Int) < (h : Int) + 1 := by omega
  have hlN : l < h + 1 := by omega
  have hpI : (p : Int) < (M : Int) := by omega
  obtain ⟨xa, xn, xc, rfl⟩ := hu2.val
  have HC := Lib.hid (sclone_any (.slice xa xn xc) X w2 (by omega) hu2)
  clear h1 h2 h3 hu hu2 hxl
  go_wp2_with fail
  refine HC.out.mono ?_
  rintro e w3 ⟨x, rfl, hx, hb3⟩
  go_wp2
  go_ret
  exact ⟨x, rfl, by rw [HX.out]; exact hx, HK2.out.below hb3, only_below hg2 hb3⟩


set_option maxRecDepth 100000 in
set_option maxHeartbeats 2000000 in
theorem public_any (n h : Nat) (g : Nat) (seed : List Int) (w : World) (hn0 : 1 ≤ n) (hn : n ≤ 32) (hh : h ≤ 8) (hB : IsB seed) (hk : MK w g n h seed) (ht : Tabs w) :
    Calls Tryd.prog 55 #[.pointer (some ⟨g, 0, none⟩)] w fun e w' => ∃ x, e = .returned x ∧ Sl w' x (((lvI n seed h h).getD 0 []).map (Value.int .u8)) ∧ MKB w' g n h seed ∧ w.grownBy w' (some g) := by
  have HN := Lib.hid (mnone_any g n h seed w hn0 hk)
  have HA := Lib.hid (at_any n h g h 0 seed w hn hh hB hk ht (Nat.le_refl _) (Nat.two_pow_pos _))
  obtain ⟨sv, d, lv, _, _, _, k⟩ := hk.blk
  have c1 : w.cell? ⟨g, 1, none⟩ = some (.int .i64 h) := k.cell 1
  clear k hk ht
  go_enter Tryd.func55, Tryd.ntmps55
  go_wp2_with fail
  refine HN.out.mono ?_
  rintro e w1 ⟨rfl, rfl⟩
  go_wp2_with fail
  refine HA.out.mono ?_
  rintro e w2 ⟨x, rfl, hx, hk2, hg2⟩
  go_wp2
  go_ret
  exact ⟨_, rfl, hx, hk2, hg2⟩

set_option maxRecDepth 100000 in
set_option maxHeartbeats 2000000 in
/-- New, where the arguments may be. -/
theorem mnew_ok (n h : Nat) (seed : List Int) (v : Value) (w : World) (hn0 : 1 ≤ n) (hn : n ≤ 32) (hh : h ≤ 8) (hl : seed.length ≤ 64) (hs : Sl w v (seed.map (Value.int .u8))) :
    Calls Tryd.prog 54 #[.int .i64 n, v, .int .i64 h] w fun e w' => ∃ g, e = .returned (.tuple #[.pointer (some ⟨g, 0, none⟩), .int .i64 0]) ∧ w.heap.size ≤ g ∧ MK w' g n h seed ∧ Below w.heap.size w w' := by
  obtain ⟨a, cap, rfl, hc, hm⟩ := hs.shape
  rw [List.length_map] at *
  have HM := Lib.hid (mcan_any n h w)
  rw [show mcanB (n : Int) (h : Int) = true from decide_eq_true (by omega)] at HM
  have HC := Lib.hid (sclone_any (.slice a seed.length cap) seed w (by omega) hs)
  have hlI : ¬ (64 : Int) < (seed.length : Int) := by omega
  clear hs
  go_enter Tryd.func54, Tryd.ntmps54
  go_wp2_with fail
  refine HM.out.mono ?_
  rintro e w1 ⟨rfl, rfl⟩
  go_wp2_with fail
  refine HC.out.mono ?_
  rintro e w2 ⟨x, rfl, hx, hb2⟩
  obtain ⟨xa, xn, xc, rfl⟩ := hx.val
  have hbA : Below w2.heap.size w2 (w2.alloc (.cells (keyCells n h (.slice xa xn xc) 0 0 (.slice none 0 0)) 156)) := (Below.refl _ _).alloc (Nat.le_refl _) _
  have kN := Blk.new w2 156 (keyCells n h (.slice xa xn xc) 0 0 (.slice none 0 0))
  have HE := Lib.hid (show w.heap.size ≤ w2.heap.size ∧ MK (w2.alloc (.cells (keyCells n h (.slice xa xn xc) 0 0 (.slice none 0 0)) 156)) w2.heap.size n h seed ∧ Below w.heap.size w (w2.alloc (.cells (keyCells n h (.slice xa xn xc) 0 0 (.slice none 0 0)) 156)) from ⟨hb2.size, .inr ⟨_, hx.below hbA (Nat.le_refl _), kN⟩, below_trans2 hb2 hbA⟩)
  clear hx hb2 hbA kN
  go_wp2
  go_ret2
  exact ⟨_, rfl, HE.out⟩

/-- New, where the arguments may not be. -/
theorem mnew_no (size h : Int) (seed : List Int) (v : Value) (w : World) (hno : ¬ (1 ≤ size ∧ size ≤ 32 ∧ 0 ≤ h ∧ h ≤ 8 ∧ seed.length ≤ 64)) (hs : Sl w v (seed.map (Value.int .u8))) :
    Calls Tryd.prog 54 #[.int .i64 size, v, .int .i64 h] w fun e w' => e = .returned (.tuple #[.pointer none, .int .i64 1]) ∧ w = w' := by
  obtain ⟨a, cap, rfl, hc, hm⟩ := hs.shape
  rw [List.length_map] at *
  have HM := Lib.hid (mcan_any size h w)
  by_cases hb : 1 ≤ size ∧ size ≤ 32 ∧ 0 ≤ h ∧ h ≤ 8
  · have hlI : (64 : Int) < (seed.length : Int) := by omega
    rw [show mcanB size h = true from decide_eq_true hb] at HM
    clear hs hno hb
    go_enter Tryd.func54, Tryd.ntmps54
    go_wp2_with fail
    refine HM.out.mono ?_
    rintro e w1 ⟨rfl, rfl⟩
    go_wp2
    go_ret2
    exact ⟨rfl, rfl⟩
  · rw [show mcanB size h = false from decide_eq_false hb] at HM
    clear hs hno hb
    go_enter Tryd.func54, Tryd.ntmps54
    go_wp2_with fail
    refine HM.out.mono ?_
    rintro e w1 ⟨rfl, rfl⟩
    go_wp2
    go_ret2
    exact ⟨rfl, rfl⟩

end Go.Proofs.YtjhannlioddkkaaDoor

namespace Go.Proofs.YtjhannlioddkkaaDoor
open Go.RowKit
set_option linter.unusedVariables false

theorem hashT_full (size tag : Int) (pss : List (List Int)) (h0 : 1 ≤ size) (h1 : size ≤ 32) (t0 : 0 ≤ tag) (t1 : tag ≤ 255) (h : ∀ p ∈ pss, p.length ≤ 65535) : (hashT size tag pss).length = size.toNat := by
  have hc : codeT tag pss = 0 := by
    unfold codeT
    rw [if_neg (by omega), if_neg (by rintro ⟨p, hp, hq⟩; have := h p hp; omega)]
  unfold hashT
  rw [if_pos hc]
  unfold cutI
  rw [List.length_take, sumI_len]
  omega
theorem numI_len (n : Int) : (numI n).length = 8 := by simp [numI]
theorem pairT_full (size l p : Int) (x y : List Int) (h0 : 1 ≤ size) (h1 : size ≤ 32) (hx : x.length ≤ 65535) (hy : y.length ≤ 65535) : (pairT size l p x y).length = size.toNat := by
  refine hashT_full size 9 _ h0 h1 (by decide) (by decide) fun q hq => ?_
  simp only [List.mem_cons, List.not_mem_nil, or_false] at hq
  rcases hq with rfl | rfl | rfl | rfl
  · rw [numI_len]; omega
  · rw [numI_len]; omega
  · exact hx
  · exact hy
theorem keyL_full (size : Int) (seed : List Int) (idx : Int) (h0 : 1 ≤ size) (h1 : size ≤ 32) (hs : seed.length ≤ 64) (hi0 : 0 ≤ idx) (hi1 : idx < 256) : (keyL size seed idx).length = size.toNat := by
  unfold keyL
  rw [if_pos (by unfold canB; exact decide_eq_true (by omega))]
  refine hashT_full size 8 _ h0 h1 (by decide) (by decide) fun q hq => ?_
  simp only [List.mem_cons, List.not_mem_nil, or_false] at hq
  rcases hq with rfl | rfl
  · rw [numI_len]; omega
  · have := catI_len (endK_len size seed idx) (4 * size.toNat + 5)
    omega
theorem getD_short {L : List (List Int)} (h : ∀ p ∈ L, p.length ≤ 32) (k : Nat) : (L.getD k []).length ≤ 32 := by
  rw [List.getD_eq_getElem?_getD]
  rcases Nat.lt_or_ge k L.length with hk | hk
  · rw [List.getElem?_eq_getElem hk]; exact h _ (List.getElem_mem _)
  · rw [List.getElem?_eq_none hk]; simp
/-- Every hash of a tree has its size. -/
theorem lvI_full (n : Nat) (seed : List Int) (h : Nat) (h0 : 1 ≤ n) (h1 : n ≤ 32) (hs : seed.length ≤ 64) (hh : h ≤ 8) : ∀ l, ∀ p ∈ lvI n seed h l, p.length = n
  | 0 => by
    intro p hp
    simp only [lvI, botI, List.mem_map, List.mem_range] at hp
    obtain ⟨i, hi, rfl⟩ := hp
    have : 2 ^ h ≤ 2 ^ 8 := Nat.pow_le_pow_right (by omega) hh
    rw [keyL_full _ _ _ (by omega) (by omega) hs (by omega) (by omega)]; omega
  | l + 1 => by
    intro p hp
    simp only [lvI, upI, List.mem_map] at hp
    obtain ⟨i, _, rfl⟩ := hp
    have a1 := getD_short (lvI_short n seed h l) (2 * i)
    have a2 := getD_short (lvI_short n seed h l) (2 * i + 1)
    unfold upA
    rw [pairT_full _ _ _ _ _ (by omega) (by omega) (by omega) (by omega)]; omega

set_option maxRecDepth 100000 in
set_option maxHeartbeats 2000000 in
theorem awake06_any (w : World) (ht : Tabs w) : Calls Tryd.prog 16 #[] w fun e w' => e = .returned (.bool true) ∧ Below w.heap.size w w' := by
  have HN := Lib.hid (mnew_ok 2 1 [] (.slice none 0 0) w (by decide) (by decide) (by decide) (by decide) (Sl.nil _))
  have HT := Lib.hid ht
  clear ht
  go_enter Tryd.func16, Tryd.ntmps16
  go_wp2_with fail
  refine HN.out.mono ?_
  rintro e w2 ⟨g, rfl, hg, hk, hb⟩
  have HP := Lib.hid (public_any 2 1 g [] w2 (by decide) (by decide) (by decide) (by intro x hx; cases hx) hk (HT.out.below hb))
  have HL := Lib.hid (lvI_full 2 [] 1 (by decide) (by decide) (by simp) (by decide) 1 _ (getD_mem (l := lvI (2 : Nat) [] 1 1) (k := 0) (by rw [lvI_len]; decide)))
  generalize (lvI (2 : Nat) [] 1 1).getD 0 [] = X at *
  clear hk
  go_wp2_with fail
  refine HP.out.mono ?_
  rintro e w3 ⟨x, rfl, hx, hk3, hg3⟩
  obtain ⟨xa, xc, rfl, _, _⟩ := hx.shape
  rw [List.length_map, HL.out]
  have hbE := below_of_only hb hg3 hg hb.size
  clear hx hk3 hg3
  go_wp2
  go_ret
  exact ⟨rfl, hbE⟩

/-- Keys that no call made. -/
def NoK (w : World) (p : Value) : Prop := p = .pointer none ∨ ∃ g, p = .pointer (some ⟨g, 0, none⟩) ∧ w.cell? ⟨g, 0, none⟩ = some (.int .i64 0)

theorem mnone_no (p : Value) (w : World) (hk : NoK w p) :
    Calls Tryd.prog 93 #[p] w fun e w' => e = .returned (.bool true) ∧ w = w' := by
  rcases hk with rfl | ⟨g, rfl, c0⟩
  · go_enter Tryd.func93, Tryd.ntmps93
    go_wp2
    go_ret
    exact ⟨rfl, rfl⟩
  · go_enter Tryd.func93, Tryd.ntmps93
    go_wp2
    go_ret
    exact ⟨rfl, rfl⟩

theorem public_no (p : Value) (w : World) (hk : NoK w p) :
    Calls Tryd.prog 55 #[p] w fun e w' => e = .returned (.slice none 0 0) ∧ w = w' := by
  have HN := Lib.hid (mnone_no p w hk)
  obtain ⟨q, rfl⟩ : ∃ q, p = .pointer q := by rcases hk with rfl | ⟨g, rfl, _⟩ <;> exact ⟨_, rfl⟩
  clear hk
  go_enter Tryd.func55, Tryd.ntmps55
  go_wp2_with fail
  refine HN.out.mono ?_
  rintro e w1 ⟨rfl, rfl⟩
  go_wp2
  go_ret
  exact ⟨rfl, rfl⟩

end Go.Proofs.YtjhannlioddkkaaDoor

namespace Go.Proofs.YtjhannlioddkkaaDoor
open Go.RowKit
set_option linter.unusedVariables false

def mrIx (size height : Int) (bs : List Int) : Int := if mrC size height bs = 0 then (mrU height.toNat bs).1 else 0
def mrPa (size height : Int) (bs : List Int) : List (List Int) := if mrC size height bs = 0 then mrParts size (mrU height.toNat bs).2.1 else []
def mrPb (size height : Int) (bs : List Int) : List (List Int) := if mrC size height bs = 0 then mrPath size height (mrU height.toNat bs).2.1 else []
def mrRt (size height : Int) (bs : List Int) : List Int := if mrC size height bs = 0 then (mrU height.toNat bs).2.1.drop (mrNeed size height) else []
theorem MrRes.content {w w' : World} {size height : Int} {bs : List Int} {x y : Value} (h : MrRes w w' size height bs x y) :
    SigV w' x (mrIx size height bs) (mrPa size height bs) (mrPb size height bs) ∧ Sl w' y ((mrRt size height bs).map (Value.int .u8)) ∧ Below w.heap.size w w' := by
  obtain ⟨h1, h2, h3⟩ := h
  unfold mrIx mrPa mrPb mrRt
  by_cases hc : mrC size height bs = 0
  · rw [if_pos hc, if_pos hc, if_pos hc, if_pos hc]
    exact ⟨(h1 hc).1, (h1 hc).2, h3⟩
  · rw [if_neg hc, if_neg hc, if_neg hc, if_neg hc]
    obtain ⟨rfl, rfl⟩ := h2 hc
    exact ⟨⟨_, _, rfl, ⟨[], Sl.nil _, rfl, fun i u bs hu _ => by simp at hu⟩, ⟨[], Sl.nil _, rfl, fun i u bs hu _ => by simp at hu⟩⟩, Sl.nil _, h3⟩
theorem mrRt_isB {size height : Int} {bs : List Int} (hB : IsB bs) : IsB (mrRt size height bs) := by
  unfold mrRt
  split
  · exact (suf_isB (uI_left _ _ _) hB).drop _
  · exact fun x hx => by cases hx
theorem flat_bound {n m : Nat} : ∀ (l : List (List Int)), l.length ≤ n → (∀ p ∈ l, p.length ≤ m) → l.flatten.length ≤ l.length * m
  | [], _, _ => by simp
  | p :: l, h, hp => by
    have h1 := flat_bound (n := n) (m := m) l (by simp at h; omega) (fun q hq => hp q (by simp [hq]))
    have h2 := hp p (by simp)
    rw [List.flatten_cons, List.length_append, List.length_cons, Nat.add_mul]
    omega
theorem clamp_le (n : Int) : clampN n ≤ 4611686018427387904 := by unfold clampN; omega
theorem clamp_id {n : Int} (h0 : 0 ≤ n) (h1 : n ≤ 4611686018427387904) : n = ((clampN n : Nat) : Int) := by unfold clampN; omega
theorem sigTo_len {bs : List Int} {cx : Int} {parts path : List (List Int)} (hl : bs.length ≤ 1048576) (hc : cx.toNat ≤ 4611686018427387904) (hp : parts.length ≤ 1048576 ∧ ∀ p ∈ parts, p.length ≤ 1048576) (hq : path.length ≤ 1048576 ∧ ∀ p ∈ path, p.length ≤ 1048576) :
    (sigTo bs cx parts path 2).length ≤ 100000000000000 := by
  have h1 := flat_bound parts hp.1 hp.2
  have h2 := flat_bound path hq.1 hq.2
  have h3 : parts.length * 1048576 ≤ 1048576 * 1048576 := Nat.mul_le_mul hp.1 (Nat.le_refl _)
  have h4 : path.length * 1048576 ≤ 1048576 * 1048576 := Nat.mul_le_mul hq.1 (Nat.le_refl _)
  have h5 := uintN_len cx.toNat hc
  show (((bs ++ uintN cx.toNat) ++ parts.flatten) ++ path.flatten).length ≤ _
  simp only [List.length_append]
  omega
theorem sigTo_isB {bs : List Int} {cx : Int} {parts path : List (List Int)} (hB : IsB bs) (hc : cx.toNat ≤ 4611686018427387904) (hp : ∀ p ∈ parts, IsB p) (hq : ∀ p ∈ path, IsB p) : IsB (sigTo bs cx parts path 2) := by
  show IsB (((bs ++ uintN cx.toNat) ++ parts.flatten) ++ path.flatten)
  refine ((hB.append (uintN_isB _ hc)).append ?_).append ?_
  · intro x hx
    obtain ⟨p, h1, h2⟩ := List.mem_flatten.1 hx
    exact hp p h1 x h2
  · intro x hx
    obtain ⟨p, h1, h2⟩ := List.mem_flatten.1 hx
    exact hq p h1 x h2
/-- What was read, written, is what was read. -/
theorem mr_again {size height : Int} {bs : List Int} (hB : IsB bs) (hc : mrC size height bs = 0) :
    bs = sigTo [] ((clampN (mrIx size height bs) : Nat) : Int) (mrPa size height bs) (mrPb size height bs) 2 ++ mrRt size height bs := by
  have h := mr_canon hB hc
  unfold mrIx mrPa mrPb mrRt
  rw [if_pos hc, if_pos hc, if_pos hc, if_pos hc]
  have hv := uI_val (2 ^ height.toNat - 1) bs 0 hB
  rw [← clamp_id (n := (mrU height.toNat bs).1) hv.1 hv.2.1]
  exact h

/-- An append of a slice that is read, where a guard lets it. -/
theorem run_append_sl {P : Program} (w : World) (t ty : TypeId) (base : Nat) (e : TypeId) (i : TypeInfo) (z : Value) (bytes : Nat) (ht : P.underlying t = some (.slice e)) (hi : P.info? e = some i) (hz : i.zero = some z)
    (hsize : i.size = 1) (hby : i.bytes = bytes) (hzs : z.cells.size = 1)
    (v : Value) (n : Nat) (xs : List Value) (hown : w.ownsRow base e 1 v n xs)
    (u : Value) (ys : List Value) (hsl : Sl w u ys) (h1 : ∀ u ∈ ys, u.oneCell' = true)
    (h63 : n + ys.length ≤ maxLen) (hbytes : (n + ys.length) * bytes ≤ 140737488355328) (hbase : base ≤ w.heap.size) :
    ∃ v' w', (Builtin.append_ #[t, t] ty #[v, u]).run P w = .ok v' w' ∧ w'.ownsRow base e 1 v' (n + ys.length) (xs ++ ys) ∧ w.grownBy w' v.ownBlock := by
  obtain ⟨ad, cap, rfl, hlc, hcm, hc⟩ := hsl
  cases ad with
  | some ad =>
    obtain ⟨v', w', h2, h3, h4, _⟩ := run_append_own (P := P) w base t ty e i z 1 bytes ht hi hz hsize hby hzs (by decide) v n xs hown ad ys.length cap ys (by omega) (by
      intro j u hu
      have hj : 0 < ys.length := by
        rcases Nat.lt_or_ge j ys.length with hlt | hge
        · omega
        · rw [List.getElem?_eq_none hge] at hu; cases hu
      obtain ⟨b, off, hab, hlt, hcell⟩ := hc hj
      cases hab
      rw [add_plain0]
      exact hcell j u hu) h1 h63 hbytes hbase
    exact ⟨v', w', h2, h3, h4⟩
  | none =>
    have hl0 : ys.length = 0 := by
      rcases Nat.eq_zero_or_pos ys.length with h0 | h0
      · exact h0
      · obtain ⟨b, off, hab, _⟩ := hc h0; cases hab
    obtain rfl : ys = [] := List.length_eq_zero_iff.1 hl0
    refine ⟨v, w, ?_, by simpa using hown, ⟨rfl, rfl, rfl, Nat.le_refl _, fun _ _ _ => rfl⟩⟩
    rcases hown.2 with ⟨rfl, rfl⟩ | ⟨g, cap', cur, rfl, _, _, hnc, _⟩
    · simp [Builtin.append_, run_underlying ht, sizeOf, typeInfo, hi, Builtin.lenOf, Builtin.firstCells]
    · simp [Builtin.append_, run_underlying ht, sizeOf, typeInfo, hi, Builtin.lenOf, Builtin.firstCells, hnc, storeCells]
theorem wpList_append_slW {P : Program} {w : World} {ops : Array Oper} {rest : List Oper} {o : Oper} {a : Act} {Q : Exit → Act → World → Prop} (hw : Region.wanted o (yielded ops a.tmps) = true) (s x : Operand) (t : TypeId)
    (ho : o.op = .call { callee := .builtin .append, args := #[s, x], argTypes := #[t, t] })
    (base : Nat) (e : TypeId) (i : TypeInfo) (z : Value) (bytes : Nat) (ht : P.underlying t = some (.slice e)) (hi : P.info? e = some i) (hz : i.zero = some z)
    (hsize : i.size = 1) (hby : i.bytes = bytes) (hzs : z.cells.size = 1)
    (v : Value) (n : Nat) (xs : List Value) (hs : a.eval s = v) (hown : w.ownsRow base e 1 v n xs)
    (u : Value) (ys : List Value) (hx : a.eval x = u) (hsl : Sl w u ys) (h1 : ∀ u ∈ ys, u.oneCell' = true)
    (h63 : n + ys.length ≤ maxLen) (hbytes : (n + ys.length) * bytes ≤ 140737488355328) (hbase : base ≤ w.heap.size)
    (h : ∀ v' w', w'.ownsRow base e 1 v' (n + ys.length) (xs ++ ys) → w.grownBy w' v.ownBlock → wpList P ops Q rest (a.put o.dst v') w') : wpList P ops Q (o :: rest) a w := by
  obtain ⟨v', w', hrun, h2, h3⟩ := run_append_sl w t o.type base e i z bytes ht hi hz hsize hby hzs v n xs hown u ys hsl h1 h63 hbytes hbase
  refine wpList_step fun K hK => ?_
  rw [if_pos hw]
  unfold Oper.wp
  simp [execOp, ho, resolve, invoke, builtin, hs, hx, hrun, Result.andThen]
  exact hK _ _ (h v' w' h2 h3)

set_option maxRecDepth 100000 in
set_option maxHeartbeats 8000000 in
theorem mtsBytes_walk (size height : Int) (sv : Value) (idx : Int) (parts path : List (List Int)) (v : Value) (bs : List Int) (w : World) (hT : Tabs w) (hz0 : -9223372036854775808 ≤ size) (hz1 : size ≤ 9223372036854775807) (hh0 : -9223372036854775808 ≤ height) (hh1 : height ≤ 9223372036854775807)
    (hp : parts.length ≤ 1048576 ∧ ∀ p ∈ parts, p.length ≤ 1048576) (hq : path.length ≤ 1048576 ∧ ∀ p ∈ path, p.length ≤ 1048576) (hpB : ∀ p ∈ parts, IsB p) (hqB : ∀ p ∈ path, IsB p) (hg : SigV w sv idx parts path) (hl : bs.length ≤ 1048576) (hB : IsB bs) (hs : Sl w v (bs.map (Value.int .u8))) :
    Calls Tryd.prog 3 #[.int .i64 size, .int .i64 height, sv, v] w fun e w' => e = .returned (.bool true) ∧ Below w.heap.size w w' := by
  obtain ⟨pa, pc, qa, qc, rfl⟩ := hg.val
  obtain ⟨va, vc, rfl, hvc, hvm⟩ := hs.shape
  rw [List.length_map] at *
  have hb1 : Below w.heap.size w (w.alloc (.cells #[.int .i64 idx, .slice pa parts.length pc, .slice qa path.length qc] 24)) := (Below.refl _ _).alloc (Nat.le_refl _) _
  have kS := Blk.new w 24 #[.int .i64 idx, .slice pa parts.length pc, .slice qa path.length qc]
  have HG := Lib.hid (fun w' (h : Below w.heap.size w w') => hg.below h (Nat.le_refl _))
  have HS := Lib.hid (fun w' (h : Below w.heap.size w w') => hs.below h (Nat.le_refl _))
  have HT := Lib.hid (fun w' (h : Below w.heap.size w w') => hT.below h)
  have hlb : bs.length ≤ 140737488351232 := by omega
  have HR1 := Lib.hid (mread_any size height (.slice va bs.length vc) bs _ hz0 hz1 hh0 hh1 hlb hB (hs.below hb1 (Nat.le_refl _)))
  have HR2 := Lib.hid (fun w' (h : Below w.heap.size w w') => rmread_any size height (.slice va bs.length vc) bs w' hz0 hz1 hh0 hh1 hlb hB (hs.below h (Nat.le_refl _)))
  have hcx : ((clampN idx : Nat) : Int).toNat ≤ 4611686018427387904 := by rw [Int.toNat_natCast]; exact clamp_le _
  have HW1 := Lib.hid (fun w' (h : Below w.heap.size w w') => swrite_all (.slice va bs.length vc) bs _ idx parts path w' _ rfl (sigTo_len hl hcx hp hq) (hs.below h (Nat.le_refl _)) (hg.below h (Nat.le_refl _)))
  have HW2 := Lib.hid (fun w' (h : Below w.heap.size w w') => rswrite_all (.slice va bs.length vc) bs _ idx parts path w' _ rfl (sigTo_len hl hcx hp hq) (hs.below h (Nat.le_refl _)) (hg.below h (Nat.le_refl _)))
  have HWB := Lib.hid (sigTo_isB (cx := ((clampN idx : Nat) : Int)) hB hcx hpB hqB)
  have HRB := Lib.hid (mrRt_isB (size := size) (height := height) hB)
  have HAG := Lib.hid (fun hc => mr_again (size := size) (height := height) hB hc)
  have HBB := Lib.hid hB
  have HLL := Lib.hid hl
  have HB1 := Lib.hid hb1
  have HKS := Lib.hid kS
  clear hg hs hT hl hB hp hq hpB hqB hcx kS hb1 hlb hvc hvm hz0 hz1 hh0 hh1
  go_enter Tryd.func3, Tryd.ntmps3
  go_wp2_with fail
  generalize (w.alloc (.cells #[.int .i64 idx, .slice pa parts.length pc, .slice qa path.length qc] 24)) = w1 at *
  refine HR1.out.mono ?_
  rintro e w2 ⟨x2, y2, rfl, hm2⟩
  obtain ⟨hx2, hy2, hb2⟩ := hm2.content
  have hbr := below_trans2 HB1.out hb2
  have kS2 := HKS.out.belowS hb2
  obtain ⟨ya, yn, yc, rfl⟩ := hy2.val
  obtain ⟨ia, ic, ja, jc, rfl⟩ := hx2.val
  have hbA : Below w2.heap.size w2 (w2.alloc (.cells #[.int .i64 (mrIx size height bs), .slice ia (mrPa size height bs).length ic, .slice ja (mrPb size height bs).length jc] 24)) := (Below.refl _ _).alloc (Nat.le_refl _) _
  have kA := Blk.new w2 24 #[.int .i64 (mrIx size height bs), .slice ia (mrPa size height bs).length ic, .slice ja (mrPb size height bs).length jc]
  have hx3 := hx2.below hbA (Nat.le_refl _)
  have hy3 := hy2.below hbA (Nat.le_refl _)
  have kS3 := kS2.belowS hbA
  have hbr := below_trans2 hbr hbA
  clear hm2 hx2 hy2 hb2 kS2 hbA HR1
  have HR := Lib.hid (HR2.out _ hbr)
  go_wp2_with fail
  generalize (w2.alloc (.cells #[.int .i64 (mrIx size height bs), .slice ia (mrPa size height bs).length ic, .slice ja (mrPb size height bs).length jc] 24)) = w3 at *
  generalize w2.heap.size = g1 at *
  refine HR.out.mono ?_
  rintro e w4 ⟨x4, y4, rfl, hm4⟩
  obtain ⟨hx4, hy4, hb4⟩ := hm4.content
  have kS4 := kS3.belowS hb4
  have kA4 := kA.belowS hb4
  have hx3 := hx3.below hb4 (Nat.le_refl _)
  have hy3 := hy3.below hb4 (Nat.le_refl _)
  have hbr := below_trans2 hbr hb4
  obtain ⟨za, zn, zc, rfl⟩ := hy4.val
  obtain ⟨ka, kc, ma, mc, rfl⟩ := hx4.val
  have hbA : Below w4.heap.size w4 (w4.alloc (.cells #[.int .i64 (mrIx size height bs), .slice ka (mrPa size height bs).length kc, .slice ma (mrPb size height bs).length mc] 24)) := (Below.refl _ _).alloc (Nat.le_refl _) _
  have kB := Blk.new w4 24 #[.int .i64 (mrIx size height bs), .slice ka (mrPa size height bs).length kc, .slice ma (mrPb size height bs).length mc]
  have hx5 := hx4.below hbA (Nat.le_refl _)
  have hy5 := hy4.below hbA (Nat.le_refl _)
  have hx3 := hx3.below hbA (Nat.le_refl _)
  have hy3 := hy3.below hbA (Nat.le_refl _)
  have kS5 := kS4.belowS hbA
  have kA5 := kA4.belowS hbA
  have hbr := below_trans2 hbr hbA
  clear hm4 hx4 hy4 hb4 kS3 kS4 kA kA4 hbA HR HR2
  go_upto_region 3 with (fail)
  generalize (w4.alloc (.cells #[.int .i64 (mrIx size height bs), .slice ka (mrPa size height bs).length kc, .slice ma (mrPb size height bs).length mc] 24)) = w5 at *
  generalize w4.heap.size = g2 at *
  have HK := Lib.hid (fun w' (h : Below w5.heap.size w5 w') => And.intro (rec3 (kA5.belowS h)) (And.intro (rec3 (kB.belowS h)) (rec3 (kS5.belowS h))))
  have hG := Lib.hid (HK.out _ (Below.refl _ _))
  have HSM := Lib.hid (fun w' (h : Below w5.heap.size w5 w') => ssame_any _ _ _ _ _ w' (hx3.below h (Nat.le_refl _)) (hx5.below h (Nat.le_refl _)))
  have HEQ := Lib.hid (fun w' (h : Below w5.heap.size w5 w') => bytesEq_same _ _ _ w' (hy3.below h (Nat.le_refl _)) (hy5.below h (Nat.le_refl _)) HRB.out)
  have HWa := Lib.hid (fun w' (h : Below w5.heap.size w5 w') => HW1.out w' (below_trans2 hbr h))
  have HWb := Lib.hid (fun w' (h : Below w5.heap.size w5 w') => HW2.out w' (below_trans2 hbr h))
  have HX3 := Lib.hid hx3
  have HY3 := Lib.hid hy3
  have HBR := Lib.hid hbr
  generalize mrC size height bs = CC at *
  generalize sigTo bs ((clampN idx : Nat) : Int) parts path 2 = WW at *
  clear hx3 hx5 hy3 hy5 kS5 kA5 kB hbr HW1 HW2
  go_region_held3 (fun w' => (w'.cell? ⟨g1, 0, none⟩ = some (.int .i64 (mrIx size height bs)) ∧ w'.cell? ⟨g1, 1, none⟩ = some (.slice ia (mrPa size height bs).length ic) ∧ w'.cell? ⟨g1, 2, none⟩ = some (.slice ja (mrPb size height bs).length jc)) ∧ (w'.cell? ⟨g2, 0, none⟩ = some (.int .i64 (mrIx size height bs)) ∧ w'.cell? ⟨g2, 1, none⟩ = some (.slice ka (mrPa size height bs).length kc) ∧ w'.cell? ⟨g2, 2, none⟩ = some (.slice ma (mrPb size height bs).length mc)) ∧ w'.cell? ⟨w.heap.size, 0, none⟩ = some (.int .i64 idx) ∧ w'.cell? ⟨w.heap.size, 1, none⟩ = some (.slice pa parts.length pc) ∧ w'.cell? ⟨w.heap.size, 2, none⟩ = some (.slice qa path.length qc)) (exact hG.out) (first
    | (go_at_call 13; refine (bytesEq_same _ _ _ _ hs8 hs9 HWB.out).mono ?_; rintro e wA ⟨rfl, rfl⟩)
    | (go_at_call 15; refine (HWb.out w8 hb8).mono ?_; rintro e w9 ⟨v9, rfl, ho9, hb9⟩; have hs9 := Sl.of_owns ho9; have hs8 := hs8.below hb9 (Nat.le_refl _); have hb9 := below_trans2 hb8 hb9; have hG := Lib.hid (HK.out _ hb9))
    | (go_at_call 14; refine (HWa.out w6 hb6).mono ?_; rintro e w8 ⟨v8, rfl, ho8, hb8⟩; have hs8 := Sl.of_owns ho8; have hb8 := below_trans2 hb6 hb8; have hG := Lib.hid (HK.out _ hb8))
    | (go_at_call 13; refine (HEQ.out w6 hb6).mono ?_; rintro e wB ⟨rfl, rfl⟩)
    | (go_at_call 12; refine (HSM.out _ (by first | exact Below.refl _ _ | exact (Below.refl _ _).drew)).mono ?_; rintro e w6 ⟨rfl, hb6⟩; have hb6 : Below w5.heap.size w5 w6 := ⟨hb6.os, hb6.tape, hb6.output, hb6.size, hb6.block⟩; have hG := Lib.hid (HK.out _ hb6)))
  have hbr9 := below_trans2 HBR.out hb9
  obtain ⟨⟨a0, a1, a2⟩, -⟩ := HK.out _ hb9
  have hx9 := HX3.out.below hb9 (Nat.le_refl _)
  have hy9 := HY3.out.below hb9 (Nat.le_refl _)
  have HS9 := Lib.hid (HS.out _ hbr9)
  clear HEQ HSM HWa HWb HK hG HX3 HY3 hs8 hs9 ho8 ho9
  by_cases hcc : CC = 0
  rotate_left
  · have hcc' : (CC != 0) = true := by simpa using hcc
    have HAW := Lib.hid (awake06_any w9 (HT.out _ hbr9))
    clear hcc
    go_wp2_with fail
    refine HAW.out.mono ?_
    rintro e wa ⟨rfl, hba⟩
    have hbz := below_trans2 hbr9 hba
    go_wp2
    go_ret
    exact ⟨rfl, hbz⟩
  have HAE := Lib.hid (HAG.out hcc)
  subst hcc
  have HL9 := Lib.hid (show (sigTo [] ((clampN (mrIx size height bs) : Nat) : Int) (mrPa size height bs) (mrPb size height bs) 2).length + (mrRt size height bs).length = bs.length from by rw [← List.length_append, ← HAE.out])
  have HWR := Lib.hid (swrite_all (.slice none 0 0) [] _ (mrIx size height bs) (mrPa size height bs) (mrPb size height bs) w9 _ rfl (by have := HL9.out; have := HLL.out; omega) (Sl.nil _) hx9)
  generalize mrRt size height bs = RT at *
  generalize sigTo [] ((clampN (mrIx size height bs) : Nat) : Int) (mrPa size height bs) (mrPb size height bs) 2 = SG at *
  clear hx9
  go_wp2_with fail
  refine HWR.out.mono ?_
  rintro e wa ⟨xa, rfl, hoa, hba⟩
  have hya := hy9.below hba (Nat.le_refl _)
  have hsa := HS9.out.below hba (Nat.le_refl _)
  have hbra := below_trans2 hbr9 hba
  have HBA := Lib.hid hba
  obtain ⟨i0, hi, hz0, hz1, hz2⟩ := info_parts info8c
  clear HWR hy9 hba a0 a1 a2
  go_wp2_with (at_builtin; go_loud (refine wpList_append_slW (by rfl) _ _ 25 rfl w9.heap.size 5 i0 (.int .u8 0) 1 Tryd.underlying25 hi hz0 hz1 hz2 rfl _ SG.length (SG.map (Value.int .u8)) rfl hoa (.slice ya yn yc) (RT.map (Value.int .u8)) rfl hya (one8 _) (by have h1 := HL9.out; have h2 := HLL.out; rw [List.length_map]; unfold maxLen; omega) (by have h1 := HL9.out; have h2 := HLL.out; rw [List.length_map]; omega) HBA.out.size ?_))
  intro xv wb hownb hgb
  have hbb := below_grown HBA.out hoa (Nat.le_refl _) HBA.out.size hgb
  have hxb := Sl.of_owns hownb
  rw [← List.map_append, ← HAE.out] at hxb
  have hsb := HS9.out.below hbb (Nat.le_refl _)
  have hbrb := below_trans2 hbr9 hbb
  have HEQ := Lib.hid (bytesEq_same _ _ bs wb hxb hsb HBB.out)
  have HAW := Lib.hid (awake06_any wb (HT.out _ hbrb))
  clear hownb hgb hxb hsb hoa hya hsa
  go_wp2_with fail
  refine HEQ.out.mono ?_
  rintro e wc ⟨rfl, rfl⟩
  go_wp2_with fail
  refine HAW.out.mono ?_
  rintro e wd ⟨rfl, hbd⟩
  have hbz := below_trans2 hbrb hbd
  go_wp2
  go_ret
  exact ⟨rfl, hbz⟩

end Go.Proofs.YtjhannlioddkkaaDoor

namespace Go.Proofs.YtjhannlioddkkaaDoor
open Go.RowKit
set_option linter.unusedVariables false

theorem Sls.opened {W : World} {a : Addr} {base len cap : Nat} {A : Nat → Option Addr} {L C : Nat → Nat} {Z : Nat → List Int} (hl : len ≤ cap) (hm : cap ≤ maxLen)
    (hrow : ∀ r, r < cap → W.cell? (a.add r) = some (.slice (A r) (L r) (C r)) ∧ L r ≤ C r ∧ C r ≤ maxLen ∧ (Z r).length = C r ∧ (∀ n ∈ Z r, (Lit.int .u8 n).wf = true) ∧ (A r = none → C r = 0) ∧
      ∀ a', A r = some a' → base ≤ a'.block ∧ ∀ c, c < C r → W.cell? (a'.add c) = some (.int .u8 ((Z r).getD c 0))) :
    Sls W (.slice (some a) len cap) ((List.range len).map fun r => (Z r).take (L r)) := by
  refine ⟨(List.range len).map fun r => .slice (A r) (L r) (C r), ?_, by simp, fun i u bs hu hp => ?_⟩
  · have hlen : ((List.range len).map fun r => Value.slice (A r) (L r) (C r)).length = len := by simp
    refine ⟨some a, cap, by rw [hlen], by rw [hlen]; exact hl, hm, fun hp => ?_⟩
    rw [hlen] at hp
    obtain ⟨b, off, spot⟩ := a
    have h0 := (hrow 0 (by omega)).1
    have hspot : spot = none := by simpa [Addr.add] using World.cell?_spot h0
    subst hspot
    refine ⟨b, off, rfl, ?_, fun j u hu => ?_⟩
    · rcases Nat.lt_or_ge b W.heap.size with h | h
      · exact h
      · simp [Addr.add, World.cell?, Array.getElem?_eq_none h] at h0
    · have hj : j < len := by
        rcases Nat.lt_or_ge j len with h | h
        · exact h
        · rw [List.getElem?_eq_none (by omega)] at hu; cases hu
      rw [List.getElem?_map, List.getElem?_range hj] at hu
      simp only [Option.map_some, Option.some.injEq] at hu
      subst hu
      have h1 := (hrow j (by omega)).1
      have e : (⟨b, off, none⟩ : Addr).add j = ⟨b, off + j, none⟩ := by
        simp only [Addr.add]; split <;> simp_all
      rw [e] at h1
      exact h1
  · have hi : i < len := by
      rcases Nat.lt_or_ge i len with h | h
      · exact h
      · rw [List.getElem?_eq_none (by simpa using h)] at hu; cases hu
    rw [List.getElem?_map, List.getElem?_range hi] at hu hp
    simp only [Option.map_some, Option.some.injEq] at hu hp
    subst hu hp
    obtain ⟨_, h1, h2, h3, _, h5, h6⟩ := hrow i (by omega)
    cases hA : A i with
    | none =>
      have hc := h5 hA
      have hz : Z i = [] := List.length_eq_zero_iff.1 (by omega)
      rw [hz, hc, show L i = 0 by omega]
      exact Sl.nil W
    | some a' => exact Sl.opened h1 h2 h3 (fun c hc => (h6 a' hA).2 c (by omega))

theorem opened_isB {W : World} {a : Addr} {base len cap : Nat} {A : Nat → Option Addr} {L C : Nat → Nat} {Z : Nat → List Int} (hl : len ≤ cap)
    (hrow : ∀ r, r < cap → W.cell? (a.add r) = some (.slice (A r) (L r) (C r)) ∧ L r ≤ C r ∧ C r ≤ maxLen ∧ (Z r).length = C r ∧ (∀ n ∈ Z r, (Lit.int .u8 n).wf = true) ∧ (A r = none → C r = 0) ∧
      ∀ a', A r = some a' → base ≤ a'.block ∧ ∀ c, c < C r → W.cell? (a'.add c) = some (.int .u8 ((Z r).getD c 0))) :
    ∀ p ∈ (List.range len).map (fun r => (Z r).take (L r)), ∀ n ∈ p, (Lit.int .u8 n).wf = true := by
  intro p hp n hn
  obtain ⟨r, hr, rfl⟩ := List.mem_map.1 hp
  have hr : r < len := by simpa using hr
  exact (hrow r (by omega)).2.2.2.2.1 n (List.mem_of_mem_take hn)

end Go.Proofs.YtjhannlioddkkaaDoor

namespace Go.Proofs.YtjhannlioddkkaaDoor
open Go.ChangeShapes Go.WideShapes Go.Deep
set_option linter.unusedVariables false
variable {H : Type} {enc : TypeId × Value → H} {W : World} {held : Bool} {fuel : Nat} {x : DataW H × List MemPlace}

theorem sbytes_opened {v : Value} (h : DataW.trod enc Tryd.prog W 0 (fun _ => true) held fuel 25 [v] = some x) :
    ∃ bs : List Int, Sl W v (bs.map (Value.int .u8)) ∧ ∀ n ∈ bs, (Lit.int .u8 n).wf = true := by
  rcases open_ints Tryd.underlying25 Tryd.underlying5 (by kernel_rfl) h with ⟨hcs, _⟩ | ⟨a, l, c, zs, hcs, _, hl, hm, hz, _, hcell, hw⟩
  · obtain rfl : v = .slice none 0 0 := by simpa using hcs
    exact ⟨[], Sl.nil _, by simp⟩
  · obtain rfl : v = .slice (some a) l c := by simpa using hcs
    exact ⟨zs.take l, Sl.opened hl hm (by simpa using hz) hcell, fun n hn => hw n (List.mem_of_mem_take hn)⟩

theorem stexts_opened {v : Value} (h : DataW.trod enc Tryd.prog W 0 (fun _ => true) held fuel 22 [v] = some x) :
    ∃ zs : List (List Int), Sls W v zs ∧ ∀ p ∈ zs, ∀ n ∈ p, (Lit.int .u8 n).wf = true := by
  rcases open_int_rows Tryd.underlying22 Tryd.underlying25 Tryd.underlying5 (by kernel_rfl) (by kernel_rfl) h with ⟨hcs, _⟩ | ⟨x, l, c, AA, LL, CC, ZZ, hcs, _, hl, hm, hx, hrow⟩
  · obtain rfl : v = .slice none 0 0 := by simpa using hcs
    exact ⟨[], ⟨[], Sl.nil _, rfl, fun i u bs hu _ => by simp at hu⟩, by simp⟩
  · obtain rfl : v = .slice (some x) l c := by simpa using hcs
    exact ⟨_, Sls.opened hl hm hrow, opened_isB hl hrow⟩

set_option maxRecDepth 100000 in
theorem sig_opened {r : Reach} {b0 : Nat} {v : Value} {d : DataW H} {p : List MemPlace} (hv : Value.okWide Tryd.prog W r b0 24 v) (h : DataW.Trod enc Tryd.prog W 0 (fun _ => true) held 24 v d p) :
    ∃ idx parts path, SigV W v idx parts path ∧ (Lit.int .i64 idx).wf = true ∧ (∀ p ∈ parts, ∀ n ∈ p, (Lit.int .u8 n).wf = true) ∧ ∀ p ∈ path, ∀ n ∈ p, (Lit.int .u8 n).wf = true := by
  obtain ⟨cs, rfl, hsz⟩ := okWide_struct Tryd.underlying24 hv
  have hsz := hsz.trans (show Tryd.prog.cellsOf 24 = 3 by kernel_rfl)
  obtain ⟨l⟩ := cs
  match l, hsz with
  | [c0, c1, c2], _ =>
    obtain ⟨fu, hf⟩ := h
    obtain ⟨xs, n, _, hx, _, hlen, hg⟩ := DataW.trod_struct Tryd.underlying24 hf
    have hone : Tryd.prog.cellsOf 3 = 1 := by kernel_rfl
    have honeT : Tryd.prog.cellsOf 22 = 1 := by kernel_rfl
    match xs, hlen with
    | [y0, y1, y2], _ =>
      obtain ⟨z0, hz0, _, hw0⟩ := DataW.trod_int Tryd.underlying3 (show DataW.trod enc Tryd.prog W 0 (fun _ => true) held n 3 [c0] = some y0 by simpa [Value.cells, hone] using hg 0 _ rfl)
      obtain rfl : c0 = .int .i64 z0 := by simpa using hz0
      obtain ⟨b1, s1, w1⟩ := stexts_opened (v := c1) (x := y1) (by simpa [Value.cells, hone, honeT] using hg 1 _ rfl)
      obtain ⟨b2, s2, w2⟩ := stexts_opened (v := c2) (x := y2) (by simpa [Value.cells, hone, honeT] using hg 2 _ rfl)
      exact ⟨z0, b1, b2, ⟨_, _, rfl, s1, s2⟩, hw0, w1, w2⟩

end Go.Proofs.YtjhannlioddkkaaDoor

namespace Go.Proofs.YtjhannlioddkkaaDoor.bulks
open Go.ChangeShapes Go.WideShapes

theorem ge_one {H : Type} (d : DataW H) : 1 ≤ Rows.uptoBulk d := by
  cases d <;> try simp [Rows.uptoBulk]
  rename_i l
  cases l <;> simp [Rows.uptoBulk]

theorem count {H : Type} : ∀ l : List (DataW H), l.length ≤ Rows.uptoBulkAll l
  | [] => by simp [Rows.uptoBulkAll]
  | d :: r => by
    have h1 := ge_one d
    have h2 := count r
    simp only [Rows.uptoBulkAll, List.length_cons]; omega

theorem all {H : Type} {l : List (DataW H)} (hk : Rows.uptoSmall H l = true) : Rows.uptoBulkAll l ≤ 1048576 := of_decide_eq_true hk

theorem lits_le {H : Type} {d : DataW H} {k : IntKind} {xs ys : List Int} (h : d = .slice (lits k xs) (lits k ys)) : xs.length ≤ Rows.uptoBulk d := by
  subst h
  have h1 := count (H := H) (lits k xs)
  have h2 : (lits (H := H) k xs).length = xs.length := by simp [lits]
  simp only [Rows.uptoBulk]
  omega

theorem part {H : Type} {d : DataW H} : ∀ {l : List (DataW H)}, d ∈ l → Rows.uptoBulk d ≤ Rows.uptoBulkAll l
  | [], h => by cases h
  | e :: r, h => by
    simp only [Rows.uptoBulkAll]
    rcases List.mem_cons.1 h with rfl | h
    · omega
    · have := part h; omega

theorem elem_le {H : Type} {d : DataW H} {l r : List (DataW H)} (h : d ∈ l) : Rows.uptoBulk d ≤ Rows.uptoBulkAll l + Rows.uptoBulkAll r + 1 := by
  have := part h; omega

end Go.Proofs.YtjhannlioddkkaaDoor.bulks

namespace Go.Proofs.YtjhannlioddkkaaDoor
open Go.ChangeShapes Go.WideShapes Go.Deep
set_option linter.unusedVariables false
variable {H : Type} {enc : TypeId × Value → H} {W : World} {held : Bool} {fuel : Nat} {x : DataW H × List MemPlace}

theorem intRow_bulk {A : Option Addr} {L : Nat} {Z : List Int} (hA : A = none → Z = []) : (Z.take L).length ≤ Rows.uptoBulk (intRow (H := H) .u8 A L Z) := by
  cases A with
  | none => rw [hA rfl]; simp
  | some a => exact bulks.lits_le (d := intRow (H := H) .u8 (some a) L Z) (xs := Z.take L) (ys := Z.drop L) rfl

theorem stexts_openedU {v : Value} (h : DataW.trod enc Tryd.prog W 0 (fun _ => true) held fuel 22 [v] = some x) :
    ∃ zs : List (List Int), Sls W v zs ∧ (∀ p ∈ zs, ∀ n ∈ p, (Lit.int .u8 n).wf = true) ∧ zs.length ≤ Rows.uptoBulk x.1 ∧ ∀ p ∈ zs, p.length ≤ Rows.uptoBulk x.1 := by
  rcases open_int_rows Tryd.underlying22 Tryd.underlying25 Tryd.underlying5 (by kernel_rfl) (by kernel_rfl) h with ⟨hcs, _⟩ | ⟨y, l, c, AA, LL, CC, ZZ, hcs, _, hl, hm, hx, hrow⟩
  · obtain rfl : v = .slice none 0 0 := by simpa using hcs
    exact ⟨[], ⟨[], Sl.nil _, rfl, fun i u bs hu _ => by simp at hu⟩, by simp, by simp, by simp⟩
  · obtain rfl : v = .slice (some y) l c := by simpa using hcs
    refine ⟨_, Sls.opened hl hm hrow, opened_isB hl hrow, ?_, ?_⟩
    · rw [hx]
      have h1 := bulks.count (H := H) ((List.range l).map fun r => intRow .u8 (AA r) (LL r) (ZZ r))
      simp only [Rows.uptoBulk, List.length_map, List.length_range] at h1 ⊢
      omega
    · intro p hp
      obtain ⟨r, hr, rfl⟩ := List.mem_map.1 hp
      have hr : r < l := by simpa using hr
      rw [hx]
      have h1 := bulks.elem_le (H := H) (d := intRow .u8 (AA r) (LL r) (ZZ r)) (l := (List.range l).map fun r => intRow .u8 (AA r) (LL r) (ZZ r)) (r := (List.range (c - l)).map fun j => intRow .u8 (AA (l + j)) (LL (l + j)) (ZZ (l + j))) (List.mem_map_of_mem (f := fun r => intRow .u8 (AA r) (LL r) (ZZ r)) (List.mem_range.2 hr))
      have h2 := intRow_bulk (H := H) (A := AA r) (L := LL r) (Z := ZZ r) (fun hA => by
        obtain ⟨_, _, _, h4, _, h6, _⟩ := hrow r (by omega)
        exact List.length_eq_zero_iff.1 (by rw [h4, h6 hA]))
      simp only [Rows.uptoBulk] at h1 ⊢
      omega

set_option maxRecDepth 100000 in
theorem sig_openedU {r : Reach} {b0 : Nat} {v : Value} {d : DataW H} {p : List MemPlace} (hv : Value.okWide Tryd.prog W r b0 24 v) (h : DataW.Trod enc Tryd.prog W 0 (fun _ => true) held 24 v d p) :
    ∃ idx parts path, SigV W v idx parts path ∧ (Lit.int .i64 idx).wf = true ∧ ((∀ p ∈ parts, ∀ n ∈ p, (Lit.int .u8 n).wf = true) ∧ ∀ p ∈ path, ∀ n ∈ p, (Lit.int .u8 n).wf = true) ∧ (parts.length ≤ Rows.uptoBulk d ∧ ∀ p ∈ parts, p.length ≤ Rows.uptoBulk d) ∧ path.length ≤ Rows.uptoBulk d ∧ ∀ p ∈ path, p.length ≤ Rows.uptoBulk d := by
  obtain ⟨cs, rfl, hsz⟩ := okWide_struct Tryd.underlying24 hv
  have hsz := hsz.trans (show Tryd.prog.cellsOf 24 = 3 by kernel_rfl)
  obtain ⟨l⟩ := cs
  match l, hsz with
  | [c0, c1, c2], _ =>
    obtain ⟨fu, hf⟩ := h
    obtain ⟨xs, n, _, hx, _, hlen, hg⟩ := DataW.trod_struct Tryd.underlying24 hf
    have hone : Tryd.prog.cellsOf 3 = 1 := by kernel_rfl
    have honeT : Tryd.prog.cellsOf 22 = 1 := by kernel_rfl
    match xs, hlen with
    | [y0, y1, y2], _ =>
      obtain ⟨z0, hz0, _, hw0⟩ := DataW.trod_int Tryd.underlying3 (show DataW.trod enc Tryd.prog W 0 (fun _ => true) held n 3 [c0] = some y0 by simpa [Value.cells, hone] using hg 0 _ rfl)
      obtain rfl : c0 = .int .i64 z0 := by simpa using hz0
      obtain ⟨b1, s1, w1, l1, m1⟩ := stexts_openedU (v := c1) (x := y1) (by simpa [Value.cells, hone, honeT] using hg 1 _ rfl)
      obtain ⟨b2, s2, w2, l2, m2⟩ := stexts_openedU (v := c2) (x := y2) (by simpa [Value.cells, hone, honeT] using hg 2 _ rfl)
      have hd : d = .agg [y0.1, y1.1, y2.1] := by have := congrArg Prod.fst hx; simpa using this
      have e1 : Rows.uptoBulk y1.1 ≤ Rows.uptoBulk d ∧ Rows.uptoBulk y2.1 ≤ Rows.uptoBulk d := by rw [hd]; simp only [Rows.uptoBulk, Rows.uptoBulkAll]; omega
      exact ⟨z0, b1, b2, ⟨_, _, rfl, s1, s2⟩, hw0, ⟨w1, w2⟩, ⟨Nat.le_trans l1 e1.1, fun p hp => Nat.le_trans (m1 p hp) e1.1⟩, Nat.le_trans l2 e1.2, fun p hp => Nat.le_trans (m2 p hp) e1.2⟩

end Go.Proofs.YtjhannlioddkkaaDoor
