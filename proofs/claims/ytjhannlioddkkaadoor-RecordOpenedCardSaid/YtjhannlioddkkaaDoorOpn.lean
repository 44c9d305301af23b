
/- Signed records: Open. Conditions: the bytes are bytes. -/
import Derived.Test.YtjhannlioddkkaaDoorOpP
import Derived.Test.YtjhannlioddkkaaDoorMrd
import Derived.Test.YtjhannlioddkkaaDoorRec6
import Derived.Deep.Cut
namespace Go.Proofs.YtjhannlioddkkaaDoor
open Go.RowKit
set_option linter.unusedVariables false

def opT (bs : List Int) : List Int × List Int × Int := bI 4096 bs 0
def opOk (size height : Int) (bs : List Int) : Prop := (opT bs).2.2 = 0 ∧ decOk size (opT bs).1 ∧ mrC size height (opT bs).2.1 = 0 ∧ (mrU height.toNat (opT bs).2.1).2.1.drop (mrNeed size height) = []
instance (size height : Int) (bs : List Int) : Decidable (opOk size height bs) := by unfold opOk; infer_instance
def opC (size height : Int) (bs : List Int) : Int := if opOk size height bs then 0 else 5
def z9v : Value := .agg #[.int .i64 0, .int .i64 0, .slice none 0 0, .int .i64 0, .slice none 0 0, .slice none 0 0, .int .i64 0, .slice none 0 0, .slice none 0 0]
def OpRes (w w' : World) (size height : Int) (bs : List Int) (x : Value) : Prop :=
  (opOk size height bs → SgnV w' x (d1 (opT bs).1).1 (d2 (opT bs).1).1 (d3 size (opT bs).1).1 (d4 size (opT bs).1).1 (d5 size (opT bs).1).1 (d6 size (opT bs).1).1 (mrU height.toNat (opT bs).2.1).1 (mrParts size (mrU height.toNat (opT bs).2.1).2.1) (mrPath size height (mrU height.toNat (opT bs).2.1).2.1)) ∧
  (¬ opOk size height bs → x = z9v) ∧ Below w.heap.size w w'

/-- A list of texts that are not empty is not read from cells that hold no such text. -/
theorem Sls.keepZ {w w' : World} {g : Nat} {t : TypeId} {cs : Array Value} (k : Blk w g t cs) (hcs : ∀ (j : Nat) (u : Value), cs[j]? = some u → (∀ n, u ≠ .int .u8 n) ∧ ∀ a n c, u = .slice a n c → n = 0) (hg : w.grownBy w' (some g))
    {v : Value} {pss : List (List Int)} (h : Sls w v pss) (hp : ∀ p ∈ pss, 0 < p.length) : Sls w' v pss := by
  obtain ⟨vs, hs, hl, hat⟩ := h
  refine ⟨vs, ?_, hl, fun i u bs hu hb => (hat i u bs hu hb).keepG k (fun j n hj => (hcs j _ hj).1 n rfl) hg⟩
  obtain ⟨a, cap, rfl, h1, h2, h3⟩ := hs
  refine ⟨a, cap, rfl, h1, h2, fun hp0 => ?_⟩
  obtain ⟨b, off, rfl, hlt, hc⟩ := h3 hp0
  have hne : some b ≠ some g := by
    intro he
    obtain rfl : b = g := by simpa using he
    have hu : vs[0]? = some vs[0] := List.getElem?_eq_getElem hp0
    have hp1 : pss[0]? = some pss[0] := List.getElem?_eq_getElem (by omega)
    have h0 := hc 0 _ hu
    rw [k.cell] at h0
    obtain ⟨a', c', he', _⟩ := (hat 0 _ _ hu hp1).shape
    have hz := (hcs _ _ h0).2 _ _ _ he'
    rw [List.length_map] at hz
    have := hp _ (List.getElem_mem (by omega : 0 < pss.length))
    omega
  refine ⟨b, off, rfl, Nat.lt_of_lt_of_le hlt hg.size, fun j u hu => ?_⟩
  rw [hg.cell_far ⟨b, off + j, none⟩ hlt hne]
  exact hc j u hu

theorem zero9 : ∀ (j : Nat) (u : Value), (#[.int .i64 0, .int .i64 0, .slice none 0 0, .int .i64 0, .slice none 0 0, .slice none 0 0, .int .i64 0, .slice none 0 0, .slice none 0 0] : Array Value)[j]? = some u → (∀ n, u ≠ .int .u8 n) ∧ ∀ a n c, u = .slice a n c → n = 0 := by
  intro j u h
  have hu : u = .int .i64 0 ∨ u = .slice none 0 0 := by
    have := Array.mem_of_getElem? h
    simp at this
    rcases this with h | h | h | h | h | h | h | h | h <;> simp [h]
  rcases hu with rfl | rfl
  · exact ⟨fun n hn => (by cases hn), fun a n c hn => (by cases hn)⟩
  · exact ⟨fun n hn => (by cases hn), fun a n c hn => (by cases hn; rfl)⟩
theorem zero3 : ∀ (j : Nat) (u : Value), (#[.int .i64 0, .slice none 0 0, .slice none 0 0] : Array Value)[j]? = some u → (∀ n, u ≠ .int .u8 n) ∧ ∀ a n c, u = .slice a n c → n = 0 := by
  intro j u h
  have hu : u = .int .i64 0 ∨ u = .slice none 0 0 := by
    have := Array.mem_of_getElem? h
    simp at this
    rcases this with h | h <;> simp [h]
  rcases hu with rfl | rfl
  · exact ⟨fun n hn => (by cases hn), fun a n c hn => (by cases hn)⟩
  · exact ⟨fun n hn => (by cases hn), fun a n c hn => (by cases hn; rfl)⟩

theorem nineSet {w : World} {g : Nat} (x0 x1 x2 x3 x4 x5 x6 x7 x8 : Value) : w.grownBy (((((((((w.setCell ⟨g, 0, none⟩ x0).setCell ⟨g, 1, none⟩ x1).setCell ⟨g, 2, none⟩ x2).setCell ⟨g, 3, none⟩ x3).setCell ⟨g, 4, none⟩ x4).setCell ⟨g, 5, none⟩ x5).setCell ⟨g, 6, none⟩ x6).setCell ⟨g, 7, none⟩ x7).setCell ⟨g, 8, none⟩ x8) (some g) :=
  only_setCell (p := ⟨g, 8, none⟩) (only_setCell (p := ⟨g, 7, none⟩) (only_setCell (p := ⟨g, 6, none⟩) (only_setCell (p := ⟨g, 5, none⟩) (only_setCell (p := ⟨g, 4, none⟩) (only_setCell (p := ⟨g, 3, none⟩) (only_setCell (p := ⟨g, 2, none⟩) (only_setCell (p := ⟨g, 1, none⟩) (only_setCell (p := ⟨g, 0, none⟩) (World.grownBy.refl _ _) (.inl rfl) _) (.inl rfl) _) (.inl rfl) _) (.inl rfl) _) (.inl rfl) _) (.inl rfl) _) (.inl rfl) _) (.inl rfl) _) (.inl rfl) _
theorem rec9f {w : World} {g : Nat} {t : TypeId} {cs : Array Value} (k : Blk w g t cs) :
    (w.frozen? ⟨g, 0, none⟩ = false ∧ w.frozen? ⟨g, 1, none⟩ = false ∧ w.frozen? ⟨g, 2, none⟩ = false ∧ w.frozen? ⟨g, 3, none⟩ = false ∧ w.frozen? ⟨g, 4, none⟩ = false) ∧ w.frozen? ⟨g, 5, none⟩ = false ∧ w.frozen? ⟨g, 6, none⟩ = false ∧ w.frozen? ⟨g, 7, none⟩ = false ∧ w.frozen? ⟨g, 8, none⟩ = false :=
  ⟨⟨k.frozen 0, k.frozen 1, k.frozen 2, k.frozen 3, k.frozen 4⟩, k.frozen 5, k.frozen 6, k.frozen 7, k.frozen 8⟩

/-- The signed record is stored into the result. -/
theorem sgn_stored {w w9 : World} {g : Nat} {ep ti co idx : Int} {tr li : List Int} {ln parts path : List (List Int)} {vt vl vk vp vq : Value}
    (kZ : Blk w9 g 37 #[.int .i64 0, .int .i64 0, .slice none 0 0, .int .i64 0, .slice none 0 0, .slice none 0 0, .int .i64 0, .slice none 0 0, .slice none 0 0])
    (hr : RecV w9 (.agg #[.int .i64 ep, .int .i64 ti, vt, .int .i64 co, vl, vk]) ep ti tr co li ln) (hs : SigV w9 (.agg #[.int .i64 idx, vp, vq]) idx parts path)
    (h1 : ∀ p ∈ ln, 0 < p.length) (h2 : ∀ p ∈ parts, 0 < p.length) (h3 : ∀ p ∈ path, 0 < p.length) (hg : w9.grownBy w (some g)) :
    SgnV w (.agg #[.int .i64 ep, .int .i64 ti, vt, .int .i64 co, vl, vk, .int .i64 idx, vp, vq]) ep ti tr co li ln idx parts path := by
  obtain ⟨a, b, c, e, ha, hb, hc⟩ := hr
  cases e
  obtain ⟨p, q, e, hp, hq⟩ := hs
  cases e
  have hNB : ∀ (j : Nat) (n : Int), (#[.int .i64 0, .int .i64 0, .slice none 0 0, .int .i64 0, .slice none 0 0, .slice none 0 0, .int .i64 0, .slice none 0 0, .slice none 0 0] : Array Value)[j]? ≠ some (.int .u8 n) := fun j n hj => (zero9 j _ hj).1 n rfl
  exact ⟨_, _, _, _, _, rfl, ⟨_, _, _, rfl, ha.keepG kZ hNB hg, hb.keepG kZ hNB hg, hc.keepZ kZ zero9 hg h1⟩, ⟨_, _, rfl, hp.keepZ kZ zero9 hg h2, hq.keepZ kZ zero9 hg h3⟩⟩

/-- Pieces are as long as the size says. -/
theorem mr_sizes {size height : Int} {bs : List Int} (h : mrC size height bs = 0) :
    (1 ≤ size ∧ size ≤ 32 ∧ 0 ≤ height ∧ height ≤ 8) ∧ (∀ p ∈ mrParts size (mrU height.toNat bs).2.1, p.length = size.toNat) ∧ ∀ p ∈ mrPath size height (mrU height.toNat bs).2.1, p.length = size.toNat := by
  unfold mrC at h
  split at h
  · cases h
  · rename_i hcan
    have hcan' : 1 ≤ size ∧ size ≤ 32 ∧ 0 ≤ height ∧ height ≤ 8 := by
      have hc : mcanB size height = true := by simpa using hcan
      unfold mcanB at hc; exact of_decide_eq_true hc
    split at h
    · rename_i he; exact absurd h he
    · split at h
      · cases h
      · rename_i hl
        refine ⟨hcan', ?_, ?_⟩
        all_goals
          intro p hp
          generalize (mrU height.toNat bs).2.1 = r at *
          first | unfold mrParts at hp | unfold mrPath at hp
          unfold chunksI at hp
          obtain ⟨i, hi, rfl⟩ := List.mem_map.1 hp
          rw [List.mem_range] at hi
          unfold chunkI
          rw [List.length_take, List.length_drop]
          unfold mrNeed at hl
          have hle : ∀ k, k < 4 * size.toNat + 5 + height.toNat → size.toNat * k + size.toNat ≤ r.length := fun k hk => by
            have h1 : size.toNat * (k + 1) ≤ size.toNat * (4 * size.toNat + 5 + height.toNat) := Nat.mul_le_mul (Nat.le_refl _) hk
            rw [Nat.mul_succ] at h1
            omega
          first
            | (have := hle (0 + i) (by omega); omega)
            | (have := hle (4 * size.toNat + 5 + i) (by omega); omega)

end Go.Proofs.YtjhannlioddkkaaDoor

namespace Go.Proofs.YtjhannlioddkkaaDoor
open Go.RowKit
set_option linter.unusedVariables false

set_option maxRecDepth 100000 in
set_option maxHeartbeats 4000000 in
theorem open_any (size height : Int) (v : Value) (bs : List Int) (w : World) (hz0 : -9223372036854775808 ≤ size) (hz1 : size ≤ 9223372036854775807) (hh0 : -9223372036854775808 ≤ height) (hh1 : height ≤ 9223372036854775807) (hl : bs.length ≤ 140737488351232) (hB : IsB bs) (hs : Sl w v (bs.map (Value.int .u8))) (hT : TzTab w) :
    Calls Tryd.prog 20 #[.int .i64 size, .int .i64 height, v] w fun e w' => ∃ x, e = .returned (.tuple #[x, .int .i64 (opC size height bs)]) ∧ OpRes w w' size height bs x := by
  obtain ⟨va, vc, rfl, hc, hm⟩ := hs.shape
  rw [List.length_map] at *
  have hb1 : Below w.heap.size w (w.alloc (.cells #[.int .i64 0, .int .i64 0, .slice none 0 0, .int .i64 0, .slice none 0 0, .slice none 0 0, .int .i64 0, .slice none 0 0, .slice none 0 0] 37)) := (Below.refl _ _).alloc (Nat.le_refl _) _
  have kZ := Blk.new w 37 #[.int .i64 0, .int .i64 0, .slice none 0 0, .int .i64 0, .slice none 0 0, .slice none 0 0, .int .i64 0, .slice none 0 0, .slice none 0 0]
  have hs1 := hs.below hb1 (Nat.le_refl _)
  have hsz1 : (w.alloc (.cells #[.int .i64 0, .int .i64 0, .slice none 0 0, .int .i64 0, .slice none 0 0, .slice none 0 0, .int .i64 0, .slice none 0 0, .slice none 0 0] 37)).heap.size = w.heap.size + 1 := by simp
  have HLL := Lib.hid hl
  have HB := Lib.hid hB
  have HSS := Lib.hid hs
  have HT := Lib.hid hT
  have HOC := Lib.hid (show opC size height bs = if opOk size height bs then 0 else 5 from rfl)
  have HOK : Hid (opOk size height bs ↔ ((opT bs).2.2 = 0 ∧ decOk size (opT bs).1 ∧ mrC size height (opT bs).2.1 = 0 ∧ (mrU height.toNat (opT bs).2.1).2.1.drop (mrNeed size height) = [])) := ⟨fun h => h, fun h => h⟩
  have HNO := Lib.hid (fun (w' : World) (hn : ¬ opOk size height bs) (h : Below w.heap.size w w') => (show OpRes w w' size height bs z9v from ⟨fun h' => absurd h' hn, fun _ => rfl, h⟩))
  have HRES := Lib.hid (fun (w' : World) (x : Value) (hok : opOk size height bs) (hx : SgnV w' x (d1 (opT bs).1).1 (d2 (opT bs).1).1 (d3 size (opT bs).1).1 (d4 size (opT bs).1).1 (d5 size (opT bs).1).1 (d6 size (opT bs).1).1 (mrU height.toNat (opT bs).2.1).1 (mrParts size (mrU height.toNat (opT bs).2.1).2.1) (mrPath size height (mrU height.toNat (opT bs).2.1).2.1)) (h : Below w.heap.size w w') => (show OpRes w w' size height bs x from ⟨fun _ => hx, fun hn => absurd hok hn, h⟩))
  have HBL := Lib.hid (bI_left 4096 bs 0)
  have HTB := Lib.hid (bI_isB 4096 bs 0 hB)
  have HTL := Lib.hid (bI_len 4096 bs 0)
  have HX := Lib.hid (fun (g : Nat) (w1 : World) (h : Rd w1 g bs 0) => crbytes_any g bs 0 4096 w1 HB.out HLL.out h)
  have hOT : opT bs = bI 4096 bs 0 := rfl
  rw [← hOT] at HBL HTB HTL HX
  clear hs hl hB hT hOT
  generalize opT bs = U at *
  obtain ⟨T, R, er⟩ := U
  simp only at HOK HRES HBL HTB HTL HX
  generalize opC size height bs = CC at *
  go_enter Tryd.func20, Tryd.ntmps20
  go_wp2_with fail
  generalize (w.alloc (.cells #[.int .i64 0, .int .i64 0, .slice none 0 0, .int .i64 0, .slice none 0 0, .slice none 0 0, .int .i64 0, .slice none 0 0, .slice none 0 0] 37)) = w1 at *
  refine (copen_any _ bs w1 HLL.out hs1).mono ?_
  rintro e w2 ⟨g, rfl, hg, hr2, hb2⟩
  have kZ := kZ.belowS hb2
  have hbr := hb1.trans (hb2.mono hb1.size)
  have hgP : w.heap.size < g := by omega
  clear hs1 hb1 hb2 hsz1 hg
  have HU := Lib.hid (HX.out g w2 hr2)
  go_wp2_with fail
  refine HU.out.mono ?_
  rintro e w3 ⟨x3, rfl, hx3, hr3, hg3⟩
  have kZ := kZ.grown hg3 (by intro e; cases e; omega)
  have hbr := below_of_only hbr hg3 (by omega) hbr.size
  obtain ⟨xa, xn, xc, rfl⟩ := hx3.val
  clear hg3 HU hr2 HX
  have HER := Lib.hid (crerr_any g _ _ w3 hr3)
  by_cases he : er = 0
  rotate_left
  · have he' : (er != 0) = true := by simp [he]
    have HN := Lib.hid (show ¬ opOk size height bs from fun h => he (HOK.out.1 h).1)
    obtain ⟨⟨z0, z1, z2, z3, z4, z5⟩, z6, z7, z8⟩ := rec9 kZ
    obtain ⟨⟨f0, f1, f2, f3, f4⟩, f5, f6, f7, f8⟩ := rec9f kZ
    have HBR := Lib.hid hbr
    clear he hbr
    go_wp2_with fail
    refine HER.out.mono ?_
    rintro e w4 ⟨rfl, rfl⟩
    go_wp2
    exact bodyPost_ret (by rw [results_cell_tmp rfl]; go_simp; exact rfl) rfl ⟨_, by rw [HOC.out, if_neg HN.out]; rfl, HNO.out _ HN.out (below_of_only HBR.out (nineSet _ _ _ _ _ _ _ _ _) (Nat.le_refl _) HBR.out.size)⟩
  subst he
  have he' : ((0 : Int) != 0) = false := rfl
  go_wp2_with fail
  refine HER.out.mono ?_
  rintro e w4 ⟨rfl, rfl⟩
  have HDE := Lib.hid (dec_any size _ T w3 hz0 hz1 (by have := HTL.out; have := HLL.out; omega) HTB.out hx3 (HT.out.below hbr))
  clear HER hx3 he'
  go_wp2_with fail
  refine HDE.out.mono ?_
  rintro e w5 ⟨x5, rfl, hd1, hd2, hb5⟩
  have kZ := kZ.belowS hb5
  have hr5 := hr3.below hb5
  have hbr := below_trans2 hbr hb5
  clear hr3 hb5 HDE
  obtain ⟨ve, vi, vt, vo, vl, vk, rfl, hdv⟩ : ∃ ve vi vt vo vl vk, x5 = .agg #[.int .i64 ve, .int .i64 vi, vt, .int .i64 vo, vl, vk] ∧ (isSl vt ∧ isSl vl ∧ isSl vk) := by
    by_cases hok : decOk size T
    · obtain ⟨vt, vl, vk, h1, h2, h3, h4⟩ := hd1 hok
      obtain ⟨a, c, e1, _⟩ := h2.shape
      obtain ⟨a2, c2, e2, _⟩ := h3.shape
      obtain ⟨a3, c3, e3, _⟩ := h4.shape
      exact ⟨_, _, _, _, _, _, h1, ⟨_, _, _, e1⟩, ⟨_, _, _, e2⟩, ⟨_, _, _, e3⟩⟩
    · exact ⟨_, _, _, _, _, _, hd2 hok, ⟨_, _, _, rfl⟩, ⟨_, _, _, rfl⟩, ⟨_, _, _, rfl⟩⟩
  obtain ⟨⟨ta, tn, tc, rfl⟩, ⟨la, ln, lc, rfl⟩, ka, kn, kc, rfl⟩ := hdv
  have hbA : Below w5.heap.size w5 (w5.alloc (.cells #[.int .i64 ve, .int .i64 vi, .slice ta tn tc, .int .i64 vo, .slice la ln lc, .slice ka kn kc] 35)) := (Below.refl _ _).alloc (Nat.le_refl _) _
  have kR := Blk.new w5 35 #[.int .i64 ve, .int .i64 vi, .slice ta tn tc, .int .i64 vo, .slice la ln lc, .slice ka kn kc]
  have kZ := kZ.belowS hbA
  have hr6 := hr5.below hbA
  have HD1 := Lib.hid (fun hok => (hd1 hok).below hbA (Nat.le_refl _))
  have hbr := below_trans2 hbr hbA
  have HGR := Lib.hid (show w.heap.size < w5.heap.size by obtain ⟨_, hk, _⟩ := hr5; have := hk.lt; omega)
  clear hd1 hd2 hr5 hbA
  go_wp2_with fail
  generalize (w5.alloc (.cells #[.int .i64 ve, .int .i64 vi, .slice ta tn tc, .int .i64 vo, .slice la ln lc, .slice ka kn kc] 35)) = w6 at *
  generalize w5.heap.size = gr at *
  refine (crleft_any g _ _ w6 hr6).mono ?_
  rintro e w7 ⟨rfl, rfl⟩
  obtain ⟨D, hD⟩ : ∃ D : Nat, D = bs.length - R.length := ⟨_, rfl⟩
  have hlr := suf_len HBL.out
  have HDR := Lib.hid (show bs.drop D = R from by
    rcases HBL.out with h | h
    · subst h; rw [hD]; simp
    · obtain ⟨pre, rfl⟩ := h
      rw [hD, List.length_append, Nat.add_sub_cancel, List.drop_left])
  have HDL := Lib.hid (show D ≤ bs.length by omega)
  have hD2 : wrap64 ((bs.length : Int) - (R.length : Int)) = D := by rw [hD]; have := HLL.out; simp only [wrap64]; omega
  have hs6 := HSS.out.below hbr (Nat.le_refl _)
  have HRL := Lib.hid (show R.length ≤ 140737488351232 from Nat.le_trans hlr HLL.out)
  have HRB := Lib.hid (show IsB R from suf_isB HBL.out HB.out)
  clear hlr hD
  go_wp2_with (refine wpList_from rfl _ _ 25 5 rfl Tryd.underlying25 size8 _ D _ rfl hs6 (by first | rfl | (rw [← hD2]; rfl)) (by have := HDL.out; simpa using this) ?_)
  intro ra rc hrs
  rw [← List.map_drop, HDR.out] at hrs
  have hrn : bs.length - D = R.length := by have := congrArg List.length HDR.out; rw [List.length_drop] at this; exact this
  simp only [hrn] at hrs ⊢
  have HMR := Lib.hid (mread_any size height _ R w6 hz0 hz1 hh0 hh1 HRL.out HRB.out hrs)
  clear hrs hs6 hD2 hrn HDR HDL
  go_wp2_with fail
  refine HMR.out.mono ?_
  rintro e w8 ⟨x8, y8, rfl, hm1, hm2, hb8⟩
  have kZ := kZ.belowS hb8
  have kR := kR.belowS hb8
  have HD1 := Lib.hid (fun hok => (HD1.out hok).below hb8 (Nat.le_refl _))
  have hbr := below_trans2 hbr hb8
  clear hb8 HMR hr6
  obtain ⟨vx, pv, qv, rfl, hsv⟩ : ∃ vx pv qv, x8 = .agg #[.int .i64 vx, pv, qv] ∧ (isSl pv ∧ isSl qv ∧ isSl y8) := by
    by_cases hok : mrC size height R = 0
    · obtain ⟨⟨vp, vq, h1, h2, h3⟩, h4⟩ := hm1 hok
      obtain ⟨a, c, e1, _⟩ := h2.shape
      obtain ⟨a2, c2, e2, _⟩ := h3.shape
      obtain ⟨a3, c3, e3, _⟩ := h4.shape
      exact ⟨_, _, _, h1, ⟨_, _, _, e1⟩, ⟨_, _, _, e2⟩, ⟨_, _, _, e3⟩⟩
    · exact ⟨_, _, _, (hm2 hok).1, ⟨_, _, _, rfl⟩, ⟨_, _, _, rfl⟩, ⟨_, _, _, (hm2 hok).2⟩⟩
  obtain ⟨⟨pa, pn, pc, rfl⟩, ⟨qa, qn, qc, rfl⟩, ya, yn, yc, rfl⟩ := hsv
  have hbA : Below w8.heap.size w8 (w8.alloc (.cells #[.int .i64 vx, .slice pa pn pc, .slice qa qn qc] 24)) := (Below.refl _ _).alloc (Nat.le_refl _) _
  have kS := Blk.new w8 24 #[.int .i64 vx, .slice pa pn pc, .slice qa qn qc]
  have kZ := kZ.belowS hbA
  have kR := kR.belowS hbA
  have HD1 := Lib.hid (fun hok => (HD1.out hok).below hbA (Nat.le_refl _))
  have HM1 := Lib.hid (fun hok => (hm1 hok).1.below hbA (Nat.le_refl _))
  have HYN := Lib.hid (show mrC size height R = 0 → yn = ((mrU height.toNat R).2.1.drop (mrNeed size height)).length from fun hok => by
    obtain ⟨_, _, e, _⟩ := (hm1 hok).2
    rw [List.length_map] at e
    cases e
    rfl)
  have hbr := below_trans2 hbr hbA
  clear hm1 hm2 hbA
  have HBR := Lib.hid hbr
  have HKZ := Lib.hid kZ
  obtain ⟨⟨z0, z1, z2, z3, z4, z5⟩, z6, z7, z8⟩ := rec9 kZ
  obtain ⟨⟨f0, f1, f2, f3, f4⟩, f5, f6, f7, f8⟩ := rec9f kZ
  obtain ⟨r0, r1, r2, r3, r4, r5⟩ := rec6 kR
  obtain ⟨s0, s1, s2⟩ := rec3 kS
  clear hbr kZ kR kS
  by_cases hk1 : decOk size T
  rotate_left
  · have hc1 : decC size T = 5 := by unfold decC; rw [if_neg hk1]
    have HN := Lib.hid (show ¬ opOk size height bs from fun h => hk1 (HOK.out.1 h).2.1)
    rw [hc1]
    clear hk1 hc1
    go_wp2
    exact bodyPost_ret (by rw [results_cell_tmp rfl]; go_simp; exact rfl) rfl ⟨_, by rw [HOC.out, if_neg HN.out]; rfl, HNO.out _ HN.out (below_of_only HBR.out (nineSet _ _ _ _ _ _ _ _ _) (Nat.le_refl _) HBR.out.size)⟩
  have hc1 : decC size T = 0 := by unfold decC; rw [if_pos hk1]
  rw [hc1]
  by_cases hk2 : mrC size height R = 0
  rotate_left
  · have he2 : (mrC size height R != 0) = true := by simpa using hk2
    have HN := Lib.hid (show ¬ opOk size height bs from fun h => hk2 (HOK.out.1 h).2.2.1)
    clear hk1 hk2 hc1
    generalize mrC size height R = CM at *
    go_wp2
    exact bodyPost_ret (by rw [results_cell_tmp rfl]; go_simp; exact rfl) rfl ⟨_, by rw [HOC.out, if_neg HN.out]; rfl, HNO.out _ HN.out (below_of_only HBR.out (nineSet _ _ _ _ _ _ _ _ _) (Nat.le_refl _) HBR.out.size)⟩
  have HY := Lib.hid (HYN.out hk2)
  rw [hk2]
  by_cases hk3 : yn = 0
  rotate_left
  · have he3 : (0 : Int) < (yn : Int) := by omega
    have HN := Lib.hid (show ¬ opOk size height bs from fun h => hk3 (by rw [HY.out, (HOK.out.1 h).2.2.2]; rfl))
    clear hk1 hk2 hc1 hk3
    go_wp2
    exact bodyPost_ret (by rw [results_cell_tmp rfl]; go_simp; exact rfl) rfl ⟨_, by rw [HOC.out, if_neg HN.out]; rfl, HNO.out _ HN.out (below_of_only HBR.out (nineSet _ _ _ _ _ _ _ _ _) (Nat.le_refl _) HBR.out.size)⟩
  have HP := Lib.hid (show opOk size height bs from HOK.out.2 ⟨by trivial, hk1, hk2, List.length_eq_zero_iff.1 (by rw [← HY.out, hk3])⟩)
  have HV1 := Lib.hid (HD1.out hk1)
  have HV2 := Lib.hid (HM1.out hk2)
  have HZ := Lib.hid (show (∀ p ∈ (d6 size T).1, 0 < p.length) ∧ (∀ p ∈ mrParts size (mrU height.toNat R).2.1, 0 < p.length) ∧ ∀ p ∈ mrPath size height (mrU height.toNat R).2.1, 0 < p.length from by
    obtain ⟨h1, h2, h3⟩ := mr_sizes hk2
    refine ⟨fun p hp => ?_, fun p hp => by rw [h2 p hp]; omega, fun p hp => by rw [h3 p hp]; omega⟩
    have := hk1.2.2.1.2.2.2.2.2.2 p hp
    omega)
  have hy0 : ¬ (0 : Int) < (yn : Int) := by omega
  clear hk1 hk2 hc1 hk3
  go_wp2
  refine bodyPost_ret (by rw [results_cell_tmp rfl]; go_simp; exact rfl) rfl ⟨_, by rw [HOC.out, if_pos HP.out], HRES.out _ _ HP.out ?_ (below_of_only HBR.out (nineSet _ _ _ _ _ _ _ _ _) (Nat.le_refl _) HBR.out.size)⟩
  have e1 : ve = (d1 T).1 ∧ vi = (d2 T).1 ∧ vo = (d4 size T).1 := by
    obtain ⟨_, _, _, e, _⟩ := HV1.out
    cases e
    exact ⟨rfl, rfl, rfl⟩
  have e2 : vx = (mrU height.toNat R).1 := by
    obtain ⟨_, _, e, _⟩ := HV2.out
    cases e
    rfl
  obtain ⟨rfl, rfl, rfl⟩ := e1
  subst e2
  exact sgn_stored HKZ.out HV1.out HV2.out HZ.out.1 HZ.out.2.1 HZ.out.2.2 (nineSet _ _ _ _ _ _ _ _ _)

end Go.Proofs.YtjhannlioddkkaaDoor
