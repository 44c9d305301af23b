
/- Signed records: Open. Conditions: the bytes are bytes. The reference's reader: Fail, Take. The reference's reader: Uint. Records: what the reference's Decode keeps while it reads; the reader's End. Signatures as bytes: what the reference's Read keeps while it reads; its Take. Conditions: none. Signatures as bytes: the walk of the reference's Read. Conditions: none. Records: the reference's Decode. Signed records: the reference's Open (printed by gen_ropn.py out of XOpn). Conditions: the bytes are bytes. Records: the reference's Encode. Records: their hashes. The walks of what may be, of a chain's beginning, of how many chains there are; the program's and the reference's. -/
import Derived.Test.YtjhannlioddkkaaGreatDoorRs1
import Derived.Deep.Cut
import Derived.Test.YtjhannlioddkkaaGreatDoorReaderU
import Derived.Test.YtjhannlioddkkaaGreatDoorRecM
import Derived.Test.YtjhannlioddkkaaGreatDoorClone
import Derived.Test.YtjhannlioddkkaaGreatDoorRec3
import Derived.Test.YtjhannlioddkkaaGreatDoorCodecR
import Derived.Deep.RegionHeld3
import Derived.Test.YtjhannlioddkkaaGreatDoorTextC
import Derived.Test.YtjhannlioddkkaaGreatDoorChain
namespace Go.Proofs.YtjhannlioddkkaaGreatDoor
open Go.RowKit
set_option linter.unusedVariables false

def opT (bs : List Int) : List Int × List Int × Int := bI 4096 bs 0
def opOk (size height : Int) (bs : List Int) : Prop := (opT bs).2.2 = 0 ∧ decOk size (opT bs).1 ∧ mrC size height (opT bs).2.1 = 0 ∧ (mrU height.toNat (opT bs).2.1).2.1.drop (mrNeed size height) = []
instance (size height : Int) (bs : List Int) : Decidable (opOk size height bs) := by unfold opOk; infer_instance
def opC (size height : Int) (bs : List Int) : Int := if opOk size height bs then 0 else 5
def z9v : Value := .agg #[.int .i64 0, .int .i64 0, .slice none 0 0, .int .i64 0, .slice none 0 0, .slice none 0 0, .int .i64 0, .slice none 0 0, .slice none 0 0]
def OpRes (w w' : World) (size height : Int) (bs : List Int) (x : Value) : Prop :=
  (opOk size height bs → SgnV w' x (d1 (opT bs).1).1 (d2 (opT bs).1).1 (d3 size (opT bs).1).1 (d4 size (opT bs).1).1 (d5 size (opT bs).1).1 (d6 size (opT bs).1).1 (mrU height.toNat (opT bs).2.1).1 (mrParts size (mrU height.toNat (opT bs).2.1).2.1) (mrPath size height (mrU height.toNat (opT bs).2.1).2.1)) ∧
  (¬ opOk size height bs → x = z9v) ∧ Below w.heap.size w w'

/-- A list of texts that are not empty is not read from cells that hold no such text. -/
theorem Sls.keepZ {w w' : World} {g : Nat} {t : TypeId} {cs : Array Value} (k : Blk w g t cs) (hcs : ∀ (j : Nat) (u : Value), cs[j]? = some u → (∀ n, u ≠ .int .u8 n) ∧ ∀ a n c, u = .slice a n c → n = 0) (hg : w.grownBy w' (some g))
    {v : Value} {pss : List (List Int)} (h : Sls w v pss) (hp : ∀ p ∈ pss, 0 < p.length) : Sls w' v pss := by
  obtain ⟨vs, hs, hl, hat⟩ := h
  refine ⟨vs, ?_, hl, fun i u bs hu hb => (hat i u bs hu hb).keepG k (fun j n hj => (hcs j _ hj).1 n rfl) hg⟩
  obtain ⟨a, cap, rfl, h1, h2, h3⟩ := hs
  refine ⟨a, cap, rfl, h1, h2, fun hp0 => ?_⟩
  obtain ⟨b, off, rfl, hlt, hc⟩ := h3 hp0
  have hne : some b ≠ some g := by
    intro he
    obtain rfl : b = g := by simpa using he
    have hu : vs[0]? = some vs[0] := List.getElem?_eq_getElem hp0
    have hp1 : pss[0]? = some pss[0] := List.getElem?_eq_getElem (by omega)
    have h0 := hc 0 _ hu
    rw [k.cell] at h0
    obtain ⟨a', c', he', _⟩ := (hat 0 _ _ hu hp1).shape
    have hz := (hcs _ _ h0).2 _ _ _ he'
    rw [List.length_map] at hz
    have := hp _ (List.getElem_mem (by omega : 0 < pss.length))
    omega
  refine ⟨b, off, rfl, Nat.lt_of_lt_of_le hlt hg.size, fun j u hu => ?_⟩
  rw [hg.cell_far ⟨b, off + j, none⟩ hlt hne]
  exact hc j u hu

theorem zero9 : ∀ (j : Nat) (u : Value), (#[.int .i64 0, .int .i64 0, .slice none 0 0, .int .i64 0, .slice none 0 0, .slice none 0 0, .int .i64 0, .slice none 0 0, .slice none 0 0] : Array Value)[j]? = some u → (∀ n, u ≠ .int .u8 n) ∧ ∀ a n c, u = .slice a n c → n = 0 := by
  intro j u h
  have hu : u = .int .i64 0 ∨ u = .slice none 0 0 := by
    have := Array.mem_of_getElem? h
    simp at this
    rcases this with h | h | h | h | h | h | h | h | h <;> simp [h]
  rcases hu with rfl | rfl
  · exact ⟨fun n hn => (by cases hn), fun a n c hn => (by cases hn)⟩
  · exact ⟨fun n hn => (by cases hn), fun a n c hn => (by cases hn; rfl)⟩
theorem zero3 : ∀ (j : Nat) (u : Value), (#[.int .i64 0, .slice none 0 0, .slice none 0 0] : Array Value)[j]? = some u → (∀ n, u ≠ .int .u8 n) ∧ ∀ a n c, u = .slice a n c → n = 0 := by
  intro j u h
  have hu : u = .int .i64 0 ∨ u = .slice none 0 0 := by
    have := Array.mem_of_getElem? h
    simp at this
    rcases this with h | h <;> simp [h]
  rcases hu with rfl | rfl
  · exact ⟨fun n hn => (by cases hn), fun a n c hn => (by cases hn)⟩
  · exact ⟨fun n hn => (by cases hn), fun a n c hn => (by cases hn; rfl)⟩

theorem nineSet {w : World} {g : Nat} (x0 x1 x2 x3 x4 x5 x6 x7 x8 : Value) : w.grownBy (((((((((w.setCell ⟨g, 0, none⟩ x0).setCell ⟨g, 1, none⟩ x1).setCell ⟨g, 2, none⟩ x2).setCell ⟨g, 3, none⟩ x3).setCell ⟨g, 4, none⟩ x4).setCell ⟨g, 5, none⟩ x5).setCell ⟨g, 6, none⟩ x6).setCell ⟨g, 7, none⟩ x7).setCell ⟨g, 8, none⟩ x8) (some g) :=
  only_setCell (p := ⟨g, 8, none⟩) (only_setCell (p := ⟨g, 7, none⟩) (only_setCell (p := ⟨g, 6, none⟩) (only_setCell (p := ⟨g, 5, none⟩) (only_setCell (p := ⟨g, 4, none⟩) (only_setCell (p := ⟨g, 3, none⟩) (only_setCell (p := ⟨g, 2, none⟩) (only_setCell (p := ⟨g, 1, none⟩) (only_setCell (p := ⟨g, 0, none⟩) (World.grownBy.refl _ _) (.inl rfl) _) (.inl rfl) _) (.inl rfl) _) (.inl rfl) _) (.inl rfl) _) (.inl rfl) _) (.inl rfl) _) (.inl rfl) _) (.inl rfl) _
theorem rec9f {w : World} {g : Nat} {t : TypeId} {cs : Array Value} (k : Blk w g t cs) :
    (w.frozen? ⟨g, 0, none⟩ = false ∧ w.frozen? ⟨g, 1, none⟩ = false ∧ w.frozen? ⟨g, 2, none⟩ = false ∧ w.frozen? ⟨g, 3, none⟩ = false ∧ w.frozen? ⟨g, 4, none⟩ = false) ∧ w.frozen? ⟨g, 5, none⟩ = false ∧ w.frozen? ⟨g, 6, none⟩ = false ∧ w.frozen? ⟨g, 7, none⟩ = false ∧ w.frozen? ⟨g, 8, none⟩ = false :=
  ⟨⟨k.frozen 0, k.frozen 1, k.frozen 2, k.frozen 3, k.frozen 4⟩, k.frozen 5, k.frozen 6, k.frozen 7, k.frozen 8⟩

/-- The signed record is stored into the result. -/
theorem sgn_stored {w w9 : World} {g : Nat} {ep ti co idx : Int} {tr li : List Int} {ln parts path : List (List Int)} {vt vl vk vp vq : Value}
    (kZ : Blk w9 g 29 #[.int .i64 0, .int .i64 0, .slice none 0 0, .int .i64 0, .slice none 0 0, .slice none 0 0, .int .i64 0, .slice none 0 0, .slice none 0 0])
    (hr : RecV w9 (.agg #[.int .i64 ep, .int .i64 ti, vt, .int .i64 co, vl, vk]) ep ti tr co li ln) (hs : SigV w9 (.agg #[.int .i64 idx, vp, vq]) idx parts path)
    (h1 : ∀ p ∈ ln, 0 < p.length) (h2 : ∀ p ∈ parts, 0 < p.length) (h3 : ∀ p ∈ path, 0 < p.length) (hg : w9.grownBy w (some g)) :
    SgnV w (.agg #[.int .i64 ep, .int .i64 ti, vt, .int .i64 co, vl, vk, .int .i64 idx, vp, vq]) ep ti tr co li ln idx parts path := by
  obtain ⟨a, b, c, e, ha, hb, hc⟩ := hr
  cases e
  obtain ⟨p, q, e, hp, hq⟩ := hs
  cases e
  have hNB : ∀ (j : Nat) (n : Int), (#[.int .i64 0, .int .i64 0, .slice none 0 0, .int .i64 0, .slice none 0 0, .slice none 0 0, .int .i64 0, .slice none 0 0, .slice none 0 0] : Array Value)[j]? ≠ some (.int .u8 n) := fun j n hj => (zero9 j _ hj).1 n rfl
  exact ⟨_, _, _, _, _, rfl, ⟨_, _, _, rfl, ha.keepG kZ hNB hg, hb.keepG kZ hNB hg, hc.keepZ kZ zero9 hg h1⟩, ⟨_, _, rfl, hp.keepZ kZ zero9 hg h2, hq.keepZ kZ zero9 hg h3⟩⟩

/-- Pieces are as long as the size says. -/
theorem mr_sizes {size height : Int} {bs : List Int} (h : mrC size height bs = 0) :
    (1 ≤ size ∧ size ≤ 32 ∧ 0 ≤ height ∧ height ≤ 8) ∧ (∀ p ∈ mrParts size (mrU height.toNat bs).2.1, p.length = size.toNat) ∧ ∀ p ∈ mrPath size height (mrU height.toNat bs).2.1, p.length = size.toNat := by
  unfold mrC at h
  split at h
  · cases h
  · rename_i hcan
    have hcan' : 1 ≤ size ∧ size ≤ 32 ∧ 0 ≤ height ∧ height ≤ 8 := by
      have hc : mcanB size height = true := by simpa using hcan
      unfold mcanB at hc; exact of_decide_eq_true hc
    split at h
    · rename_i he; exact absurd h he
    · split at h
      · cases h
      · rename_i hl
        refine ⟨hcan', ?_, ?_⟩
        all_goals
          intro p hp
          generalize (mrU height.toNat bs).2.1 = r at *
          first | unfold mrParts at hp | unfold mrPath at hp
          unfold chunksI at hp
          obtain ⟨i, hi, rfl⟩ := List.mem_map.1 hp
          rw [List.mem_range] at hi
          unfold chunkI
          rw [List.length_take, List.length_drop]
          unfold mrNeed at hl
          have hle : ∀ k, k < 4 * size.toNat + 5 + height.toNat → size.toNat * k + size.toNat ≤ r.length := fun k hk => by
            have h1 : size.toNat * (k + 1) ≤ size.toNat * (4 * size.toNat + 5 + height.toNat) := Nat.mul_le_mul (Nat.le_refl _) hk
            rw [Nat.mul_succ] at h1
            omega
          first
            | (have := hle (0 + i) (by omega); omega)
            | (have := hle (4 * size.toNat + 5 + i) (by omega); omega)

end Go.Proofs.YtjhannlioddkkaaGreatDoor

namespace Go.Proofs.YtjhannlioddkkaaGreatDoor
open Go.RowKit
set_option linter.unusedVariables false

set_option maxRecDepth 100000 in
set_option maxHeartbeats 4000000 in
theorem open_any (size height : Int) (v : Value) (bs : List Int) (w : World) (hz0 : -9223372036854775808 ≤ size) (hz1 : size ≤ 9223372036854775807) (hh0 : -9223372036854775808 ≤ height) (hh1 : height ≤ 9223372036854775807) (hl : bs.length ≤ 140737488351232) (hB : IsB bs) (hs : Sl w v (bs.map (Value.int .u8))) (hT : TzTab w) :
    Calls Tryz.prog 6 #[.int .i64 size, .int .i64 height, v] w fun e w' => ∃ x, e = .returned (.tuple #[x, .int .i64 (opC size height bs)]) ∧ OpRes w w' size height bs x := by
  obtain ⟨va, vc, rfl, hc, hm⟩ := hs.shape
  rw [List.length_map] at *
  have hb1 : Below w.heap.size w (w.alloc (.cells #[.int .i64 0, .int .i64 0, .slice none 0 0, .int .i64 0, .slice none 0 0, .slice none 0 0, .int .i64 0, .slice none 0 0, .slice none 0 0] 29)) := (Below.refl _ _).alloc (Nat.le_refl _) _
  have kZ := Blk.new w 29 #[.int .i64 0, .int .i64 0, .slice none 0 0, .int .i64 0, .slice none 0 0, .slice none 0 0, .int .i64 0, .slice none 0 0, .slice none 0 0]
  have hs1 := hs.below hb1 (Nat.le_refl _)
  have hsz1 : (w.alloc (.cells #[.int .i64 0, .int .i64 0, .slice none 0 0, .int .i64 0, .slice none 0 0, .slice none 0 0, .int .i64 0, .slice none 0 0, .slice none 0 0] 29)).heap.size = w.heap.size + 1 := by simp
  have HLL := Lib.hid hl
  have HB := Lib.hid hB
  have HSS := Lib.hid hs
  have HT := Lib.hid hT
  have HOC := Lib.hid (show opC size height bs = if opOk size height bs then 0 else 5 from rfl)
  have HOK : Hid (opOk size height bs ↔ ((opT bs).2.2 = 0 ∧ decOk size (opT bs).1 ∧ mrC size height (opT bs).2.1 = 0 ∧ (mrU height.toNat (opT bs).2.1).2.1.drop (mrNeed size height) = [])) := ⟨fun h => h, fun h => h⟩
  have HNO := Lib.hid (fun (w' : World) (hn : ¬ opOk size height bs) (h : Below w.heap.size w w') => (show OpRes w w' size height bs z9v from ⟨fun h' => absurd h' hn, fun _ => rfl, h⟩))
  have HRES := Lib.hid (fun (w' : World) (x : Value) (hok : opOk size height bs) (hx : SgnV w' x (d1 (opT bs).1).1 (d2 (opT bs).1).1 (d3 size (opT bs).1).1 (d4 size (opT bs).1).1 (d5 size (opT bs).1).1 (d6 size (opT bs).1).1 (mrU height.toNat (opT bs).2.1).1 (mrParts size (mrU height.toNat (opT bs).2.1).2.1) (mrPath size height (mrU height.toNat (opT bs).2.1).2.1)) (h : Below w.heap.size w w') => (show OpRes w w' size height bs x from ⟨fun _ => hx, fun hn => absurd hok hn, h⟩))
  have HBL := Lib.hid (bI_left 4096 bs 0)
  have HTB := Lib.hid (bI_isB 4096 bs 0 hB)
  have HTL := Lib.hid (bI_len 4096 bs 0)
  have HX := Lib.hid (fun (g : Nat) (w1 : World) (h : Rd w1 g bs 0) => crbytes_any g bs 0 4096 w1 HB.out HLL.out h)
  have hOT : opT bs = bI 4096 bs 0 := rfl
  rw [← hOT] at HBL HTB HTL HX
  clear hs hl hB hT hOT
  generalize opT bs = U at *
  obtain ⟨T, R, er⟩ := U
  simp only at HOK HRES HBL HTB HTL HX
  generalize opC size height bs = CC at *
  go_enter Tryz.func6, Tryz.ntmps6
  go_wp2_with fail
  generalize (w.alloc (.cells #[.int .i64 0, .int .i64 0, .slice none 0 0, .int .i64 0, .slice none 0 0, .slice none 0 0, .int .i64 0, .slice none 0 0, .slice none 0 0] 29)) = w1 at *
  refine (copen_any _ bs w1 HLL.out hs1).mono ?_
  rintro e w2 ⟨g, rfl, hg, hr2, hb2⟩
  have kZ := kZ.belowS hb2
  have hbr := hb1.trans (hb2.mono hb1.size)
  have hgP : w.heap.size < g := by omega
  clear hs1 hb1 hb2 hsz1 hg
  have HU := Lib.hid (HX.out g w2 hr2)
  go_wp2_with fail
  refine HU.out.mono ?_
  rintro e w3 ⟨x3, rfl, hx3, hr3, hg3⟩
  have kZ := kZ.grown hg3 (by intro e; cases e; omega)
  have hbr := below_of_only hbr hg3 (by omega) hbr.size
  obtain ⟨xa, xn, xc, rfl⟩ := hx3.val
  clear hg3 HU hr2 HX
  have HER := Lib.hid (crerr_any g _ _ w3 hr3)
  by_cases he : er = 0
  rotate_left
  · have he' : (er != 0) = true := by simp [he]
    have HN := Lib.hid (show ¬ opOk size height bs from fun h => he (HOK.out.1 h).1)
    obtain ⟨⟨z0, z1, z2, z3, z4, z5⟩, z6, z7, z8⟩ := rec9 kZ
    obtain ⟨⟨f0, f1, f2, f3, f4⟩, f5, f6, f7, f8⟩ := rec9f kZ
    have HBR := Lib.hid hbr
    clear he hbr
    go_wp2_with fail
    refine HER.out.mono ?_
    rintro e w4 ⟨rfl, rfl⟩
    go_wp2
    exact bodyPost_ret (by rw [results_cell_tmp rfl]; go_simp; exact rfl) rfl ⟨_, by rw [HOC.out, if_neg HN.out]; rfl, HNO.out _ HN.out (below_of_only HBR.out (nineSet _ _ _ _ _ _ _ _ _) (Nat.le_refl _) HBR.out.size)⟩
  subst he
  have he' : ((0 : Int) != 0) = false := rfl
  go_wp2_with fail
  refine HER.out.mono ?_
  rintro e w4 ⟨rfl, rfl⟩
  have HDE := Lib.hid (dec_any size _ T w3 hz0 hz1 (by have := HTL.out; have := HLL.out; omega) HTB.out hx3 (HT.out.below hbr))
  clear HER hx3 he'
  go_wp2_with fail
  refine HDE.out.mono ?_
  rintro e w5 ⟨x5, rfl, hd1, hd2, hb5⟩
  have kZ := kZ.belowS hb5
  have hr5 := hr3.below hb5
  have hbr := below_trans2 hbr hb5
  clear hr3 hb5 HDE
  obtain ⟨ve, vi, vt, vo, vl, vk, rfl, hdv⟩ : ∃ ve vi vt vo vl vk, x5 = .agg #[.int .i64 ve, .int .i64 vi, vt, .int .i64 vo, vl, vk] ∧ (isSl vt ∧ isSl vl ∧ isSl vk) := by
    by_cases hok : decOk size T
    · obtain ⟨vt, vl, vk, h1, h2, h3, h4⟩ := hd1 hok
      obtain ⟨a, c, e1, _⟩ := h2.shape
      obtain ⟨a2, c2, e2, _⟩ := h3.shape
      obtain ⟨a3, c3, e3, _⟩ := h4.shape
      exact ⟨_, _, _, _, _, _, h1, ⟨_, _, _, e1⟩, ⟨_, _, _, e2⟩, ⟨_, _, _, e3⟩⟩
    · exact ⟨_, _, _, _, _, _, hd2 hok, ⟨_, _, _, rfl⟩, ⟨_, _, _, rfl⟩, ⟨_, _, _, rfl⟩⟩
  obtain ⟨⟨ta, tn, tc, rfl⟩, ⟨la, ln, lc, rfl⟩, ka, kn, kc, rfl⟩ := hdv
  have hbA : Below w5.heap.size w5 (w5.alloc (.cells #[.int .i64 ve, .int .i64 vi, .slice ta tn tc, .int .i64 vo, .slice la ln lc, .slice ka kn kc] 25)) := (Below.refl _ _).alloc (Nat.le_refl _) _
  have kR := Blk.new w5 25 #[.int .i64 ve, .int .i64 vi, .slice ta tn tc, .int .i64 vo, .slice la ln lc, .slice ka kn kc]
  have kZ := kZ.belowS hbA
  have hr6 := hr5.below hbA
  have HD1 := Lib.hid (fun hok => (hd1 hok).below hbA (Nat.le_refl _))
  have hbr := below_trans2 hbr hbA
  have HGR := Lib.hid (show w.heap.size < w5.heap.size by obtain ⟨_, hk, _⟩ := hr5; have := hk.lt; omega)
  clear hd1 hd2 hr5 hbA
  go_wp2_with fail
  generalize (w5.alloc (.cells #[.int .i64 ve, .int .i64 vi, .slice ta tn tc, .int .i64 vo, .slice la ln lc, .slice ka kn kc] 25)) = w6 at *
  generalize w5.heap.size = gr at *
  refine (crleft_any g _ _ w6 hr6).mono ?_
  rintro e w7 ⟨rfl, rfl⟩
  obtain ⟨D, hD⟩ : ∃ D : Nat, D = bs.length - R.length := ⟨_, rfl⟩
  have hlr := suf_len HBL.out
  have HDR := Lib.hid (show bs.drop D = R from by
    rcases HBL.out with h | h
    · subst h; rw [hD]; simp
    · obtain ⟨pre, rfl⟩ := h
      rw [hD, List.length_append, Nat.add_sub_cancel, List.drop_left])
  have HDL := Lib.hid (show D ≤ bs.length by omega)
  have hD2 : wrap64 ((bs.length : Int) - (R.length : Int)) = D := by rw [hD]; have := HLL.out; simp only [wrap64]; omega
  have hs6 := HSS.out.below hbr (Nat.le_refl _)
  have HRL := Lib.hid (show R.length ≤ 140737488351232 from Nat.le_trans hlr HLL.out)
  have HRB := Lib.hid (show IsB R from suf_isB HBL.out HB.out)
  clear hlr hD
  go_wp2_with (refine wpList_from rfl _ _ 22 5 rfl Tryz.underlying22 size8 _ D _ rfl hs6 (by first | rfl | (rw [← hD2]; rfl)) (by have := HDL.out; simpa using this) ?_)
  intro ra rc hrs
  rw [← List.map_drop, HDR.out] at hrs
  have hrn : bs.length - D = R.length := by have := congrArg List.length HDR.out; rw [List.length_drop] at this; exact this
  simp only [hrn] at hrs ⊢
  have HMR := Lib.hid (mread_any size height _ R w6 hz0 hz1 hh0 hh1 HRL.out HRB.out hrs)
  clear hrs hs6 hD2 hrn HDR HDL
  go_wp2_with fail
  refine HMR.out.mono ?_
  rintro e w8 ⟨x8, y8, rfl, hm1, hm2, hb8⟩
  have kZ := kZ.belowS hb8
  have kR := kR.belowS hb8
  have HD1 := Lib.hid (fun hok => (HD1.out hok).below hb8 (Nat.le_refl _))
  have hbr := below_trans2 hbr hb8
  clear hb8 HMR hr6
  obtain ⟨vx, pv, qv, rfl, hsv⟩ : ∃ vx pv qv, x8 = .agg #[.int .i64 vx, pv, qv] ∧ (isSl pv ∧ isSl qv ∧ isSl y8) := by
    by_cases hok : mrC size height R = 0
    · obtain ⟨⟨vp, vq, h1, h2, h3⟩, h4⟩ := hm1 hok
      obtain ⟨a, c, e1, _⟩ := h2.shape
      obtain ⟨a2, c2, e2, _⟩ := h3.shape
      obtain ⟨a3, c3, e3, _⟩ := h4.shape
      exact ⟨_, _, _, h1, ⟨_, _, _, e1⟩, ⟨_, _, _, e2⟩, ⟨_, _, _, e3⟩⟩
    · exact ⟨_, _, _, (hm2 hok).1, ⟨_, _, _, rfl⟩, ⟨_, _, _, rfl⟩, ⟨_, _, _, (hm2 hok).2⟩⟩
  obtain ⟨⟨pa, pn, pc, rfl⟩, ⟨qa, qn, qc, rfl⟩, ya, yn, yc, rfl⟩ := hsv
  have hbA : Below w8.heap.size w8 (w8.alloc (.cells #[.int .i64 vx, .slice pa pn pc, .slice qa qn qc] 27)) := (Below.refl _ _).alloc (Nat.le_refl _) _
  have kS := Blk.new w8 27 #[.int .i64 vx, .slice pa pn pc, .slice qa qn qc]
  have kZ := kZ.belowS hbA
  have kR := kR.belowS hbA
  have HD1 := Lib.hid (fun hok => (HD1.out hok).below hbA (Nat.le_refl _))
  have HM1 := Lib.hid (fun hok => (hm1 hok).1.below hbA (Nat.le_refl _))
  have HYN := Lib.hid (show mrC size height R = 0 → yn = ((mrU height.toNat R).2.1.drop (mrNeed size height)).length from fun hok => by
    obtain ⟨_, _, e, _⟩ := (hm1 hok).2
    rw [List.length_map] at e
    cases e
    rfl)
  have hbr := below_trans2 hbr hbA
  clear hm1 hm2 hbA
  have HBR := Lib.hid hbr
  have HKZ := Lib.hid kZ
  obtain ⟨⟨z0, z1, z2, z3, z4, z5⟩, z6, z7, z8⟩ := rec9 kZ
  obtain ⟨⟨f0, f1, f2, f3, f4⟩, f5, f6, f7, f8⟩ := rec9f kZ
  obtain ⟨r0, r1, r2, r3, r4, r5⟩ := rec6 kR
  obtain ⟨s0, s1, s2⟩ := rec3 kS
  clear hbr kZ kR kS
  by_cases hk1 : decOk size T
  rotate_left
  · have hc1 : decC size T = 5 := by unfold decC; rw [if_neg hk1]
    have HN := Lib.hid (show ¬ opOk size height bs from fun h => hk1 (HOK.out.1 h).2.1)
    rw [hc1]
    clear hk1 hc1
    go_wp2
    exact bodyPost_ret (by rw [results_cell_tmp rfl]; go_simp; exact rfl) rfl ⟨_, by rw [HOC.out, if_neg HN.out]; rfl, HNO.out _ HN.out (below_of_only HBR.out (nineSet _ _ _ _ _ _ _ _ _) (Nat.le_refl _) HBR.out.size)⟩
  have hc1 : decC size T = 0 := by unfold decC; rw [if_pos hk1]
  rw [hc1]
  by_cases hk2 : mrC size height R = 0
  rotate_left
  · have he2 : (mrC size height R != 0) = true := by simpa using hk2
    have HN := Lib.hid (show ¬ opOk size height bs from fun h => hk2 (HOK.out.1 h).2.2.1)
    clear hk1 hk2 hc1
    generalize mrC size height R = CM at *
    go_wp2
    exact bodyPost_ret (by rw [results_cell_tmp rfl]; go_simp; exact rfl) rfl ⟨_, by rw [HOC.out, if_neg HN.out]; rfl, HNO.out _ HN.out (below_of_only HBR.out (nineSet _ _ _ _ _ _ _ _ _) (Nat.le_refl _) HBR.out.size)⟩
  have HY := Lib.hid (HYN.out hk2)
  rw [hk2]
  by_cases hk3 : yn = 0
  rotate_left
  · have he3 : (0 : Int) < (yn : Int) := by omega
    have HN := Lib.hid (show ¬ opOk size height bs from fun h => hk3 (by rw [HY.out, (HOK.out.1 h).2.2.2]; rfl))
    clear hk1 hk2 hc1 hk3
    go_wp2
    exact bodyPost_ret (by rw [results_cell_tmp rfl]; go_simp; exact rfl) rfl ⟨_, by rw [HOC.out, if_neg HN.out]; rfl, HNO.out _ HN.out (below_of_only HBR.out (nineSet _ _ _ _ _ _ _ _ _) (Nat.le_refl _) HBR.out.size)⟩
  have HP := Lib.hid (show opOk size height bs from HOK.out.2 ⟨by trivial, hk1, hk2, List.length_eq_zero_iff.1 (by rw [← HY.out, hk3])⟩)
  have HV1 := Lib.hid (HD1.out hk1)
  have HV2 := Lib.hid (HM1.out hk2)
  have HZ := Lib.hid (show (∀ p ∈ (d6 size T).1, 0 < p.length) ∧ (∀ p ∈ mrParts size (mrU height.toNat R).2.1, 0 < p.length) ∧ ∀ p ∈ mrPath size height (mrU height.toNat R).2.1, 0 < p.length from by
    obtain ⟨h1, h2, h3⟩ := mr_sizes hk2
    refine ⟨fun p hp => ?_, fun p hp => by rw [h2 p hp]; omega, fun p hp => by rw [h3 p hp]; omega⟩
    have := hk1.2.2.1.2.2.2.2.2.2 p hp
    omega)
  have hy0 : ¬ (0 : Int) < (yn : Int) := by omega
  clear hk1 hk2 hc1 hk3
  go_wp2
  refine bodyPost_ret (by rw [results_cell_tmp rfl]; go_simp; exact rfl) rfl ⟨_, by rw [HOC.out, if_pos HP.out], HRES.out _ _ HP.out ?_ (below_of_only HBR.out (nineSet _ _ _ _ _ _ _ _ _) (Nat.le_refl _) HBR.out.size)⟩
  have e1 : ve = (d1 T).1 ∧ vi = (d2 T).1 ∧ vo = (d4 size T).1 := by
    obtain ⟨_, _, _, e, _⟩ := HV1.out
    cases e
    exact ⟨rfl, rfl, rfl⟩
  have e2 : vx = (mrU height.toNat R).1 := by
    obtain ⟨_, _, e, _⟩ := HV2.out
    cases e
    rfl
  obtain ⟨rfl, rfl, rfl⟩ := e1
  subst e2
  exact sgn_stored HKZ.out HV1.out HV2.out HZ.out.1 HZ.out.2.1 HZ.out.2.2 (nineSet _ _ _ _ _ _ _ _ _)

end Go.Proofs.YtjhannlioddkkaaGreatDoor

namespace Go.Proofs.YtjhannlioddkkaaGreatDoor
open Go.RowKit
set_option linter.unusedVariables false

/-- Block g is a reader of the reference's: what is left, its first error. -/
def RRd (w : World) (g : Nat) (bs : List Int) (e : Int) : Prop := ∃ v, Blk w g 58 #[v, .int .i64 e] ∧ Sl w v (bs.map (Value.int .u8))
def RRdAt (w w' : World) (g : Nat) (bs : List Int) (e : Int) : Prop := RRd w' g bs e ∧ w.grownBy w' (some g)

theorem RRd.val {w : World} {g : Nat} {bs : List Int} {e : Int} (h : RRd w g bs e) : ∃ a c, Blk w g 58 #[.slice a bs.length c, .int .i64 e] ∧ Sl w (.slice a bs.length c) (bs.map (Value.int .u8)) := by
  obtain ⟨v, h1, h2⟩ := h
  obtain ⟨a, c, rfl, _, _⟩ := h2.shape
  rw [List.length_map] at *
  exact ⟨a, c, h1, h2⟩
theorem rrd_noB (v : Value) (hv : ∃ a n c, v = .slice a n c) (e : Int) : ∀ (j : Nat) (n : Int), (#[v, .int .i64 e] : Array Value)[j]? ≠ some (.int .u8 n) := by
  obtain ⟨a, m, c, rfl⟩ := hv
  intro j n h
  match j, h with
  | 0, h => simp at h
  | 1, h => simp at h
  | j + 2, h => simp at h

set_option maxHeartbeats 400000 in
theorem rfail_skip (g : Nat) (v : Value) (e0 er : Int) (w : World) (he : ¬ e0 = 0) (h : Blk w g 58 #[v, .int .i64 e0]) :
    Calls Tryz.prog 65 #[.pointer (some ⟨g, 0, none⟩), .int .i64 er] w fun e w' => e = .returned (.tuple #[]) ∧ w = w' := by
  have q1 : w.cell? ⟨g, 1, none⟩ = some (.int .i64 e0) := h.cell 1
  clear h
  go_enter Tryz.func65, Tryz.ntmps65
  go_wp2
  go_end0
  exact ⟨rfl, rfl⟩

set_option maxHeartbeats 400000 in
theorem rfail_set (g : Nat) (v : Value) (er : Int) (w : World) (h : Blk w g 58 #[v, .int .i64 0]) :
    Calls Tryz.prog 65 #[.pointer (some ⟨g, 0, none⟩), .int .i64 er] w fun e w' => e = .returned (.tuple #[]) ∧ RRdAt w w' g [] er := by
  have q1 : w.cell? ⟨g, 1, none⟩ = some (.int .i64 0) := h.cell 1
  have q0 : w.cell? ⟨g, 0, none⟩ = some v := h.cell 0
  have f1 := h.frozen 1
  have f0 := h.frozen 0
  have hk := (h.set_ 1 (.int .i64 er)).set_ 0 (.slice none 0 0)
  have hg : w.grownBy ((w.setCell ⟨g, 1, none⟩ (.int .i64 er)).setCell ⟨g, 0, none⟩ (.slice none 0 0)) (some g) :=
    only_setCell (p := ⟨g, 0, none⟩) (only_setCell (p := ⟨g, 1, none⟩) (World.grownBy.refl w (some g)) (Or.inl rfl) (.int .i64 er)) (Or.inl rfl) (.slice none 0 0)
  have HK := Lib.hid hk
  have HG := Lib.hid hg
  clear h hk hg
  go_enter Tryz.func65, Tryz.ntmps65
  go_wp2
  go_end0
  exact ⟨rfl, ⟨_, HK.out, Sl.nil _⟩, HG.out⟩

set_option maxHeartbeats 1000000 in
theorem refTake_err (g : Nat) (bs : List Int) (er : Int) (n : Int) (w : World) (he : ¬ er = 0) (h : RRd w g bs er) :
    Calls Tryz.prog 50 #[.pointer (some ⟨g, 0, none⟩), .int .i64 n] w fun e w' => e = .returned (.slice none 0 0) ∧ w = w' := by
  obtain ⟨a, c, hk, hs⟩ := h.val
  have q0 : w.cell? ⟨g, 0, none⟩ = some (.slice a bs.length c) := hk.cell 0
  have q1 : w.cell? ⟨g, 1, none⟩ = some (.int .i64 er) := hk.cell 1
  have HF := Lib.hid (rfail_skip g _ er 3 w he hk)
  clear hk h hs
  by_cases hn : (bs.length : Int) < n
  · go_enter Tryz.func50, Tryz.ntmps50
    go_wp2_with fail
    refine HF.out.mono ?_
    rintro e w1 ⟨rfl, rfl⟩
    go_wp2
    go_ret
    exact ⟨rfl, rfl⟩
  · go_enter Tryz.func50, Tryz.ntmps50
    go_wp2
    go_ret
    exact ⟨rfl, rfl⟩

set_option maxHeartbeats 1000000 in
theorem refTake_short (g : Nat) (bs : List Int) (n : Nat) (w : World) (hn : bs.length < n) (h : RRd w g bs 0) :
    Calls Tryz.prog 50 #[.pointer (some ⟨g, 0, none⟩), .int .i64 n] w fun e w' => e = .returned (.slice none 0 0) ∧ RRdAt w w' g [] 3 := by
  obtain ⟨a, c, hk, hs⟩ := h.val
  have q0 : w.cell? ⟨g, 0, none⟩ = some (.slice a bs.length c) := hk.cell 0
  have HF := Lib.hid (rfail_set g _ 3 w hk)
  have hI : (bs.length : Int) < (n : Int) := by omega
  clear hk h hs hn
  go_enter Tryz.func50, Tryz.ntmps50
  go_wp2_with fail
  refine HF.out.mono ?_
  rintro e w1 ⟨rfl, ⟨v1, hk1, hs1⟩, hg1⟩
  have q1 : w1.cell? ⟨g, 1, none⟩ = some (.int .i64 3) := hk1.cell 1
  have HR := Lib.hid (show RRdAt w w1 g [] 3 from ⟨⟨v1, hk1, hs1⟩, hg1⟩)
  clear hk1 hs1 hg1
  go_wp2
  go_ret
  exact ⟨rfl, HR.out⟩

theorem info8r : (Tryz.prog.info? 5).map (fun i => (i.zero, i.size, i.bytes)) = some (some (.int .u8 0), 1, 1) := by kernel_rfl

set_option maxHeartbeats 1000000 in
theorem refTake_ok (g : Nat) (bs : List Int) (n : Nat) (w : World) (hn : n ≤ bs.length) (hm : n ≤ 140737488351232) (h : RRd w g bs 0) :
    Calls Tryz.prog 50 #[.pointer (some ⟨g, 0, none⟩), .int .i64 n] w fun e w' => ∃ x, e = .returned x ∧ Sl w' x ((bs.take n).map (Value.int .u8)) ∧ RRdAt w w' g (bs.drop n) 0 := by
  obtain ⟨a, c, hk, hs⟩ := h.val
  have hgl := hk.lt
  have q0 : w.cell? ⟨g, 0, none⟩ = some (.slice a bs.length c) := hk.cell 0
  have q1 : w.cell? ⟨g, 1, none⟩ = some (.int .i64 0) := hk.cell 1
  have HK := Lib.hid hk
  have hI : ¬ (bs.length : Int) < (n : Int) := by omega
  have hI2 : (n : Int) ≤ (c : Int) := by have := hs.len; omega
  have hI3 : (0 : Int) ≤ (n : Int) := by omega
  have HNN := Lib.hid hn
  have HMM := Lib.hid (show (bs.take n).length ≤ 140737488351232 by rw [List.length_take]; omega)
  obtain ⟨i0, hi, hz0, hz1, hz2⟩ := info_parts info8r
  have hb0 : Below w.heap.size w (w.alloc (.cells #[] 5)) := (Below.refl _ _).alloc (Nat.le_refl _) _
  have hown0 : (w.alloc (.cells #[] 5)).ownsRow w.heap.size 5 1 (.slice (some ⟨w.heap.size, 0, none⟩) 0 0) 0 [] :=
    World.ownsRow_lit (base := w.heap.size) (e := 5) (size := 1) w #[] 0 (Nat.le_refl _) (by simp [maxLen]) (by simp)
  have hst := (hs.take n (by simpa using hn)).below hb0 (Nat.le_refl _)
  rw [← List.map_take] at hst
  have hq0 : (w.alloc (.cells #[] 5)).cell? ⟨g, 0, none⟩ = some (.slice a bs.length c) := (hb0.cell (p := ⟨g, 0, none⟩) hgl).trans q0
  clear hk hn hm h
  go_enter Tryz.func50, Tryz.ntmps50
  go_wp2_with (at_builtin; go_loud (refine wpList_append_sl rfl _ _ 22 rfl w.heap.size 5 i0 (.int .u8 0) 1 Tryz.underlying22 hi hz0 hz1 hz2 rfl _ 0 [] rfl hown0 (.slice a n c) ((bs.take n).map (Value.int .u8)) rfl hst (one8 _) (by have := HMM.out; rw [List.length_map]; unfold maxLen; omega) (by have := HMM.out; rw [List.length_map]; omega) (by simp) ?_))
  intro xv w4 hown4 hg4
  have hb4 := below_grown hb0 hown0 (Nat.le_refl _) (by simp) hg4
  have hx : Sl w4 xv ((bs.take n).map (Value.int .u8)) := by simpa using Sl.of_owns hown4
  have hk4 : Blk w4 g 58 #[.slice a bs.length c, .int .i64 0] := HK.out.below hb4 hgl
  have hs4 := hs.below hb4 (Nat.le_refl _)
  have HB4 := Lib.hid hb4
  have q0 : w4.cell? ⟨g, 0, none⟩ = some (.slice a bs.length c) := hk4.cell 0
  have f0 := hk4.frozen 0
  have HK4 := Lib.hid hk4
  have HX := Lib.hid hx
  obtain ⟨xa, xn, xc, rfl⟩ := hx.val
  clear hown4 hg4 hb4 hb0 hown0 hst hq0 hs hk4 hx
  go_wp2_with (refine wpList_from rfl _ _ 22 5 rfl Tryz.underlying22 size8 _ n _ rfl hs4 rfl (by simpa using HNN.out) ?_)
  intro ad2 c2 hs2
  rw [← List.map_drop] at hs2
  have hg1 : w4.grownBy (w4.setCell ⟨g, 0, none⟩ (.slice ad2 (bs.length - n) c2)) (some g) := only_setCell (p := ⟨g, 0, none⟩) (World.grownBy.refl w4 (some g)) (Or.inl rfl) _
  have hk1 := HK4.out.set_ 0 (.slice ad2 (bs.length - n) c2)
  have HX1 := Lib.hid (HX.out.keepG HK4.out (rrd_noB _ ⟨_, _, _, rfl⟩ _) hg1)
  have hs2' := hs2.keepG HK4.out (rrd_noB _ ⟨_, _, _, rfl⟩ _) hg1
  have HR := Lib.hid (show RRdAt w (w4.setCell ⟨g, 0, none⟩ (.slice ad2 (bs.length - n) c2)) g (bs.drop n) 0 from ⟨⟨_, hk1, hs2'⟩, (only_of_below HB4.out (some g)).trans hg1⟩)
  clear hg1 hk1 hs2' hs2 hs4
  go_wp2
  go_ret
  exact ⟨_, rfl, HX1.out, HR.out⟩

end Go.Proofs.YtjhannlioddkkaaGreatDoor

namespace Go.Proofs.YtjhannlioddkkaaGreatDoor
open Go.RowKit
set_option linter.unusedVariables false

set_option maxHeartbeats 1000000 in
theorem refUint_err (g : Nat) (bs : List Int) (er most : Int) (w : World) (he : ¬ er = 0) (h : RRd w g bs er) :
    Calls Tryz.prog 49 #[.pointer (some ⟨g, 0, none⟩), .int .i64 most] w fun e w' => e = .returned (.int .i64 0) ∧ w = w' := by
  have HT := Lib.hid (refTake_err g bs er 1 w he h)
  clear he h
  go_enter Tryz.func49, Tryz.ntmps49
  go_wp2_with fail
  refine HT.out.mono ?_
  rintro e w1 ⟨rfl, rfl⟩
  go_wp2
  go_ret
  exact ⟨rfl, rfl⟩

set_option maxHeartbeats 1000000 in
theorem refUint_nil (g : Nat) (most : Int) (w : World) (h : RRd w g [] 0) :
    Calls Tryz.prog 49 #[.pointer (some ⟨g, 0, none⟩), .int .i64 most] w fun e w' => e = .returned (.int .i64 0) ∧ RRdAt w w' g [] 3 := by
  have HT := Lib.hid (refTake_short g [] 1 w (by decide) h)
  clear h
  go_enter Tryz.func49, Tryz.ntmps49
  go_wp2_with fail
  refine HT.out.mono ?_
  rintro e w1 ⟨rfl, hr⟩
  go_wp2
  go_ret
  exact ⟨rfl, hr⟩

set_option maxHeartbeats 2000000 in
theorem refUint_wide (g : Nat) (hd : Int) (r : List Int) (most : Int) (w : World) (h8 : 8 < hd) (hd2 : hd ≤ 255) (hl : r.length ≤ 140737488351232) (h : RRd w g (hd :: r) 0) :
    Calls Tryz.prog 49 #[.pointer (some ⟨g, 0, none⟩), .int .i64 most] w fun e w' => e = .returned (.int .i64 0) ∧ RRdAt w w' g [] 5 := by
  have HT := Lib.hid (refTake_ok g (hd :: r) 1 w (by simp) (by decide) h)
  have hH : 0 ≤ hd ∧ hd ≤ 255 := by omega
  clear h hl hd2
  go_enter Tryz.func49, Tryz.ntmps49
  go_wp2_with fail
  refine HT.out.mono ?_
  rintro e w1 ⟨x, rfl, hx, ⟨v, hk, hsv⟩, hg⟩
  simp only [List.take_succ_cons, List.take_zero] at hx
  obtain ⟨a, c, rfl, hc, hm⟩ := hx.shape
  obtain ⟨b, off, rfl, hlt, hcell⟩ := hx.addr (by simp)
  have q0 : w1.cell? ⟨b, off, none⟩ = some (.int .u8 hd) := by have := hcell 0 (.int .u8 hd) (by simp); simpa using this
  have HF := Lib.hid (rfail_set g _ 5 w1 hk)
  have HG := Lib.hid hg
  have HX := Lib.hid (fun w2 (hg2 : w1.grownBy w2 (some g)) => hx.keepG hk (rrd_noB v hsv.val 0) hg2)
  simp only [List.map_cons, List.map_nil, List.length_cons, List.length_nil, Nat.zero_add] at *
  clear hcell hx hk hg hsv
  go_wp2_with fail
  refine HF.out.mono ?_
  rintro e w2 ⟨rfl, hr2, hg2⟩
  have hx2 := HX.out w2 hg2
  obtain ⟨b', off', heq, _, hcell⟩ := hx2.addr (by simp)
  cases heq
  have q0 : w2.cell? ⟨b, off, none⟩ = some (.int .u8 hd) := by have := hcell 0 (.int .u8 hd) (by simp); simpa using this
  have HT2 := Lib.hid (fun n => refTake_err g [] 5 n w2 (by decide) hr2)
  have HR := Lib.hid (show RRdAt w w2 g [] 5 from ⟨hr2, HG.out.trans hg2⟩)
  obtain ⟨v2, hk2, _⟩ := hr2
  have HS5 := Lib.hid (rfail_skip g _ 5 5 w2 (by decide) hk2)
  have HS4 := Lib.hid (rfail_skip g _ 5 4 w2 (by decide) hk2)
  have e1 : w2.cell? ⟨g, 1, none⟩ = some (.int .i64 5) := hk2.cell 1
  clear hx2 hcell hg2 hk2 HX HF
  go_wp2_with fail
  refine (HT2.out _).mono ?_
  rintro e w3 ⟨rfl, rfl⟩
  go_wp2
  go_loopw [7, 30] (fun n i wr => n = .int .u64 0 ∧ i = .int .i64 0 ∧ w2 = wr) (fun _ _ _ => 0)
  case atStart => exact ⟨rfl, rfl, rfl⟩
  case round =>
    obtain ⟨rfl, rfl, rfl⟩ := hrel
    by_cases hmo : most < 0
    · go_wp2_with fail
      refine HS4.out.mono ?_
      rintro e w4 ⟨rfl, rfl⟩
      go_wp2
      go_ret
      exact ⟨rfl, HR.out⟩
    · have hmo : ¬ 0 > most := by omega
      go_wp2
      go_ret
      exact ⟨rfl, HR.out⟩

set_option maxHeartbeats 2000000 in
theorem refUint_cut (g : Nat) (hd : Int) (r : List Int) (most : Int) (w : World) (h0 : 0 ≤ hd) (h8 : ¬ 8 < hd) (hs : r.length < hd.toNat) (h : RRd w g (hd :: r) 0) :
    Calls Tryz.prog 49 #[.pointer (some ⟨g, 0, none⟩), .int .i64 most] w fun e w' => e = .returned (.int .i64 0) ∧ RRdAt w w' g [] 3 := by
  have HT := Lib.hid (refTake_ok g (hd :: r) 1 w (by simp) (by decide) h)
  obtain ⟨N, rfl⟩ : ∃ N : Nat, hd = N := ⟨hd.toNat, by omega⟩
  have hsN : r.length < N := by omega
  have hN8 : (N : Int) % 9 = N := by omega
  have hN9 : Int.tmod (N : Int) 9 = N := by rw [Int.tmod_eq_emod_of_nonneg (by omega)]; omega
  clear h h0 hs
  go_enter Tryz.func49, Tryz.ntmps49
  go_wp2_with fail
  refine HT.out.mono ?_
  rintro e w1 ⟨x, rfl, hx, hr1, hg⟩
  simp only [List.take_succ_cons, List.take_zero, List.drop_succ_cons, List.drop_zero] at hx hr1
  obtain ⟨a, c, rfl, hc, hm⟩ := hx.shape
  obtain ⟨b, off, rfl, hlt, hcell⟩ := hx.addr (by simp)
  have q0 : w1.cell? ⟨b, off, none⟩ = some (.int .u8 N) := by have := hcell 0 (.int .u8 N) (by simp); simpa using this
  have HS := Lib.hid (refTake_short g r N w1 hsN hr1)
  have HG := Lib.hid hg
  simp only [List.map_cons, List.map_nil, List.length_cons, List.length_nil, Nat.zero_add] at *
  clear hcell hx hg hr1 hsN
  go_wp2_with fail
  refine HS.out.mono ?_
  rintro e w2 ⟨rfl, hr2, hg2⟩
  have HR := Lib.hid (show RRdAt w w2 g [] 3 from ⟨hr2, HG.out.trans hg2⟩)
  obtain ⟨v2, hk2, _⟩ := hr2
  have HS4 := Lib.hid (rfail_skip g _ 3 4 w2 (by decide) hk2)
  have e1 : w2.cell? ⟨g, 1, none⟩ = some (.int .i64 3) := hk2.cell 1
  clear hk2 hg2 q0
  go_wp2
  go_loopw [7, 30] (fun n i wr => n = .int .u64 0 ∧ i = .int .i64 0 ∧ w2 = wr) (fun _ _ _ => 0)
  case atStart => exact ⟨rfl, rfl, rfl⟩
  case round =>
    obtain ⟨rfl, rfl, rfl⟩ := hrel
    by_cases hmo : most < 0
    · go_wp2_with fail
      refine HS4.out.mono ?_
      rintro e w4 ⟨rfl, rfl⟩
      go_wp2
      go_ret
      exact ⟨rfl, HR.out⟩
    · have hmo : ¬ 0 > most := by omega
      go_wp2
      go_ret
      exact ⟨rfl, HR.out⟩

set_option maxHeartbeats 4000000 in
theorem refUint_read (g : Nat) (hd : Int) (r : List Int) (most : Int) (w : World) (h0 : 0 ≤ hd) (h8 : ¬ 8 < hd) (hs : ¬ r.length < hd.toNat) (hl : r.length ≤ 140737488351232) (hB : IsB r) (h : RRd w g (hd :: r) 0) :
    Calls Tryz.prog 49 #[.pointer (some ⟨g, 0, none⟩), .int .i64 most] w fun e w' => e = .returned (.int .i64 (uI most (hd :: r) 0).1) ∧ RRdAt w w' g (uI most (hd :: r) 0).2.1 (uI most (hd :: r) 0).2.2 := by
  have HT := Lib.hid (refTake_ok g (hd :: r) 1 w (by simp) (by decide) h)
  have HU1 := Lib.hid (uI_form most hd r h8 hs)
  have HU2 := Lib.hid (uI_full most hd r h8 hs)
  have HU3 := Lib.hid (uI_ok most hd r h8 hs)
  generalize uI most (hd :: r) 0 = U at *
  obtain ⟨N, rfl⟩ : ∃ N : Nat, hd = N := ⟨hd.toNat, by omega⟩
  have hsN : N ≤ r.length := by omega
  have hN8 : (N : Int) % 9 = N := by omega
  have hN9 : Int.tmod (N : Int) 9 = N := by rw [Int.tmod_eq_emod_of_nonneg (by omega)]; omega
  have hI : ¬ 8 < (N : Int) := by omega
  rw [show (N : Int).toNat = N by omega] at HU1 HU2 HU3
  have HL := Lib.hid (show (r.take N).length = N by rw [List.length_take]; omega)
  have HX := Lib.hid (show 0 < N → (r.take N).getD 0 0 = r.getD 0 0 from fun hp => by
    rw [List.getD_eq_getElem?_getD, List.getD_eq_getElem?_getD, List.getElem?_take, if_pos hp])
  have HBL := Lib.hid (show IsB (r.take N) from fun x hx => hB x (List.mem_of_mem_take hx))
  have HW := Lib.hid (show r.length ≤ 140737488351232 by omega)
  have HI8 := Lib.hid (show N ≤ 8 by omega)
  clear h h0 hs hB h8 hl
  go_enter Tryz.func49, Tryz.ntmps49
  go_wp2_with fail
  refine HT.out.mono ?_
  rintro e w1 ⟨x, rfl, hx, hr1, hg⟩
  simp only [List.take_succ_cons, List.take_zero, List.drop_succ_cons, List.drop_zero] at hx hr1
  obtain ⟨a, c, rfl, hc, hm⟩ := hx.shape
  obtain ⟨b, off, rfl, hlt, hcell⟩ := hx.addr (by simp)
  have q0 : w1.cell? ⟨b, off, none⟩ = some (.int .u8 N) := by have := hcell 0 (.int .u8 N) (by simp); simpa using this
  have HS := Lib.hid (refTake_ok g r N w1 hsN (Nat.le_trans HI8.out (by decide)) hr1)
  have HG := Lib.hid hg
  simp only [List.map_cons, List.map_nil, List.length_cons, List.length_nil, Nat.zero_add] at *
  clear hcell hx hg hr1 hsN
  go_wp2_with fail
  refine HS.out.mono ?_
  rintro e w2 ⟨lv, rfl, hlv, hr2, hg2⟩
  have HG := Lib.hid (HG.out.trans hg2)
  clear HS HT q0 hg2
  obtain ⟨v2, hk2, hv2⟩ := id hr2
  have HF5 := Lib.hid (rfail_set g v2 5 w2 hk2)
  have HF4 := Lib.hid (rfail_set g v2 4 w2 hk2)
  have HR2 := Lib.hid hr2
  have e1 : w2.cell? ⟨g, 1, none⟩ = some (.int .i64 0) := hk2.cell 1
  have HK := Lib.hid (fun w3 (hg3 : w2.grownBy w3 (some g)) (u : Value) (zs : List Int) (hu : Sl w2 u (zs.map (Value.int .u8))) => hu.keepG hk2 (rrd_noB v2 hv2.val 0) hg3)
  clear hk2 hv2 hr2
  generalize r.take N = L at *
  obtain ⟨la, lc, rfl, hlc, hlm⟩ := hlv.shape
  rw [List.length_map] at hlc hlv
  rw [List.length_map]
  rw [HL.out] at hlc hlv
  rw [HL.out]
  have step : ∀ k, k < N → Hid (beN (L.take (k + 1)) = beN (L.take k) * 256 + L.getD k 0 ∧ (0 ≤ L.getD k 0 ∧ L.getD k 0 ≤ 255) ∧ 0 ≤ beN (L.take k) ∧ beN (L.take k) < 72057594037927936) := fun k hlt => by
    have hyb := HBL.out (L.getD k 0) (by rw [List.getD_eq_getElem?_getD, List.getElem?_eq_getElem (by rw [HL.out]; exact hlt)]; exact List.getElem_mem _)
    have hbn := beN_pos (L.take k) (fun x hx => HBL.out x (List.mem_of_mem_take hx))
    refine ⟨beN_take L k (by rw [HL.out]; exact hlt), hyb, hbn.1, Int.lt_of_lt_of_le hbn.2 ?_⟩
    have h1 : (L.take k).length ≤ 7 := by rw [List.length_take, HL.out]; have := HI8.out; omega
    have h2 : (256 : Nat) ^ (L.take k).length ≤ 256 ^ 7 := Nat.pow_le_pow_right (by decide) h1
    have h3 : (256 : Int) ^ (L.take k).length = ((256 ^ (L.take k).length : Nat) : Int) := by simp
    rw [h3]; omega
  have STEP := Lib.hid step
  clear step
  have hbn := (beN_pos L HBL.out).1
  have hbm : beN L < 18446744073709551616 := by
    refine Int.lt_of_lt_of_le (beN_pos L HBL.out).2 ?_
    have h1 : L.length ≤ 8 := by rw [HL.out]; exact HI8.out
    have h2 : (256 : Nat) ^ L.length ≤ 256 ^ 8 := Nat.pow_le_pow_right (by decide) h1
    have h3 : (256 : Int) ^ L.length = ((256 ^ L.length : Nat) : Int) := by simp
    rw [h3]; omega
  have HLN := Lib.hid (show L.take N = L from List.take_of_length_le (by rw [HL.out]; exact Nat.le_refl _))
  have HWR : Hid (beN L ≤ 4611686018427387904 → IntKind.i64.wrap (beN L) = beN L) := fun h => by rw [IntKind.wrap_i64]; omega
  have HBB := Lib.hid (And.intro hbn hbm)
  clear hbn hbm
  by_cases hbad : 0 < N ∧ r.getD 0 0 = 0
  · have hL0 : L.getD 0 0 = 0 := by rw [HX.out hbad.1]; exact hbad.2
    have HL0 := Lib.hid hL0
    have hNp : 0 < N := hbad.1
    have HNP := Lib.hid hNp
    have HU := Lib.hid (HU1.out (.inl hbad))
    clear hL0 hbad HU1 HU2 HU3 hNp
    go_wp2
    go_loopw [7, 30] (fun n i wr => ∃ k : Nat, k ≤ N ∧ i = .int .i64 k ∧ n = .int .u64 (beN (L.take k)) ∧ ((k = 0 ∧ w2 = wr) ∨ (0 < k ∧ RRdAt w2 wr g [] 5))) (fun _ i _ => N - (intOf i).toNat)
    case atStart => exact ⟨0, by omega, rfl, rfl, .inl ⟨rfl, rfl⟩⟩
    case round =>
      obtain ⟨k, hk, rfl, rfl, hst⟩ := hrel
      by_cases hlt : k < N
      · have hkI : (k : Int) < (N : Int) := by omega
        have HSK := Lib.hid (STEP.out k hlt).out
        rcases hst with ⟨rfl, rfl⟩ | ⟨hkp, hrw⟩
        · obtain ⟨b3, o3, rfl, hb3, hc3⟩ := hlv.ints (k := 0) (by rw [HL.out]; exact hlt)
          have hc3 := hc3 0 (by rw [HL.out]; exact hlt)
          rw [Nat.add_zero, HL0.out] at hc3
          rw [HL0.out] at HSK
          have HQ : Hid (IntKind.u64.wrap (IntKind.u64.wrap (beN (L.take 0) * 256) + 0) = beN (L.take (0 + 1))) := by
            have := HSK.out
            rw [this.1]
            show _ = _
            rw [IntKind.wrap_u64, IntKind.wrap_u64]; omega
          generalize beN (L.take 0) = B at *
          go_wp2_with fail
          refine HF5.out.mono ?_
          rintro e w3 ⟨rfl, hr3⟩
          go_wp2
          exact ⟨⟨1, by omega, rfl, by rw [show beN (L.take 1) = _ from HQ.out.symm, Int.add_zero], .inr ⟨by omega, hr3⟩⟩, by simp [intOf]; omega⟩
        · obtain ⟨b3, o3, rfl, hb3, hc3⟩ := (HK.out wr hrw.2 _ L hlv).ints (k := k) (by rw [HL.out]; exact hlt)
          have hc3 := hc3 k (by rw [HL.out]; exact hlt)
          have HQ : Hid (IntKind.u64.wrap (IntKind.u64.wrap (beN (L.take k) * 256) + L.getD k 0) = beN (L.take (k + 1))) := by
            have := HSK.out
            rw [this.1]
            show _ = _
            rw [IntKind.wrap_u64, IntKind.wrap_u64]; omega
          have HY : Hid (IntKind.u64.wrap (L.getD k 0) = L.getD k 0) := by have := HSK.out; show _ = _; rw [IntKind.wrap_u64]; omega
          generalize beN (L.take k) = B at *
          generalize L.getD k 0 = y at *
          have hkz : ¬ (k : Int) = 0 := by omega
          clear hlv
          go_wp2
          exact ⟨⟨k + 1, by omega, by go_num, by rw [HY.out, HQ.out], .inr ⟨by omega, hrw⟩⟩, by simp [intOf]; omega⟩
      · obtain rfl : k = N := by omega
        have hkI : ¬ (k : Int) < (k : Int) := by omega
        rcases hst with ⟨rfl, _⟩ | ⟨hkp, hrw⟩
        · exact absurd HNP.out (by omega)
        · rw [HLN.out]
          have HR := Lib.hid (show RRdAt w wr g [] 5 from ⟨hrw.1, HG.out.trans hrw.2⟩)
          obtain ⟨⟨v3, hk3, _⟩, _⟩ := hrw
          have e1 : wr.cell? ⟨g, 1, none⟩ = some (.int .i64 5) := hk3.cell 1
          have HS5 := Lib.hid (rfail_skip g _ 5 5 wr (by decide) hk3)
          have HS4 := Lib.hid (rfail_skip g _ 5 4 wr (by decide) hk3)
          generalize beN L = B at *
          clear hk3 hlv HF5 HF4
          by_cases hbig : 4611686018427387904 < B
          · by_cases hmo : most < wrap64 B
            · go_wp2_with fail
              refine HS5.out.mono ?_
              rintro e w4 ⟨rfl, rfl⟩
              go_wp2_with fail
              refine HS4.out.mono ?_
              rintro e w4 ⟨rfl, rfl⟩
              go_wp2
              go_ret
              rw [HU.out]
              exact ⟨rfl, HR.out⟩
            · go_wp2_with fail
              refine HS5.out.mono ?_
              rintro e w4 ⟨rfl, rfl⟩
              go_wp2
              go_ret
              rw [HU.out]
              exact ⟨rfl, HR.out⟩
          · have hwr := HWR.out (by omega)
            have hbig : ¬ B > 4611686018427387904 := by omega
            by_cases hmo : most < B
            · go_wp2_with fail
              refine HS4.out.mono ?_
              rintro e w4 ⟨rfl, rfl⟩
              go_wp2
              go_ret
              rw [HU.out]
              exact ⟨rfl, HR.out⟩
            · go_wp2
              go_ret
              rw [HU.out]
              exact ⟨rfl, HR.out⟩
  · have HB0 := Lib.hid hbad
    clear hbad
    go_wp2
    go_loopw [7, 30] (fun n i wr => ∃ k : Nat, k ≤ N ∧ i = .int .i64 k ∧ n = .int .u64 (beN (L.take k)) ∧ w2 = wr) (fun _ i _ => N - (intOf i).toNat)
    case atStart => exact ⟨0, by omega, rfl, rfl, rfl⟩
    case round =>
      obtain ⟨k, hk, rfl, rfl, rfl⟩ := hrel
      by_cases hlt : k < N
      · have hkI : (k : Int) < (N : Int) := by omega
        have HSK := Lib.hid (STEP.out k hlt).out
        obtain ⟨b3, o3, rfl, hb3, hc3⟩ := hlv.ints (k := k) (by rw [HL.out]; exact hlt)
        have hc3 := hc3 k (by rw [HL.out]; exact hlt)
        have HQ : Hid (IntKind.u64.wrap (IntKind.u64.wrap (beN (L.take k) * 256) + L.getD k 0) = beN (L.take (k + 1))) := by
          have := HSK.out
          rw [this.1]
          show _ = _
          rw [IntKind.wrap_u64, IntKind.wrap_u64]; omega
        have HY : Hid (IntKind.u64.wrap (L.getD k 0) = L.getD k 0) := by have := HSK.out; show _ = _; rw [IntKind.wrap_u64]; omega
        by_cases hk0 : k = 0
        · subst hk0
          have hy0 : ¬ L.getD 0 0 = 0 := fun h => HB0.out ⟨hlt, by rw [← HX.out hlt]; exact h⟩
          rw [Nat.add_zero] at hc3
          generalize beN (L.take 0) = B at *
          generalize L.getD 0 0 = y at *
          go_wp2
          exact ⟨⟨1, by omega, rfl, by rw [HY.out, HQ.out], by first | rfl | trivial⟩, by simp [intOf]; omega⟩
        · generalize beN (L.take k) = B at *
          generalize L.getD k 0 = y at *
          have hkz : ¬ (k : Int) = 0 := by omega
          go_wp2
          exact ⟨⟨k + 1, by omega, by go_num, by rw [HY.out, HQ.out], by first | rfl | trivial⟩, by simp [intOf]; omega⟩
      · obtain rfl : k = N := by omega
        have hkI : ¬ (k : Int) < (k : Int) := by omega
        rw [HLN.out]
        have HN1 := Lib.hid (fun h => HU1.out (.inr h))
        have HN2 := Lib.hid (fun h1 => HU2.out (fun h => h.elim HB0.out h1))
        have HN3 := Lib.hid (fun h1 => HU3.out (fun h => h.elim HB0.out h1))
        generalize beN L = B at *
        clear hlv
        by_cases hbig : 4611686018427387904 < B
        · have HU := Lib.hid (HN1.out hbig)
          go_wp2_with fail
          refine HF5.out.mono ?_
          rintro e w3 ⟨rfl, hr3⟩
          have HR := Lib.hid (show RRdAt w w3 g [] 5 from ⟨hr3.1, HG.out.trans hr3.2⟩)
          obtain ⟨⟨v3, hk3, _⟩, _⟩ := hr3
          have e1 : w3.cell? ⟨g, 1, none⟩ = some (.int .i64 5) := hk3.cell 1
          have HS4 := Lib.hid (rfail_skip g _ 5 4 w3 (by decide) hk3)
          clear hk3 HF5 HF4
          by_cases hmo : most < wrap64 B
          · go_wp2_with fail
            refine HS4.out.mono ?_
            rintro e w4 ⟨rfl, rfl⟩
            go_wp2
            go_ret
            rw [HU.out]
            exact ⟨rfl, HR.out⟩
          · go_wp2
            go_ret
            rw [HU.out]
            exact ⟨rfl, HR.out⟩
        · have HU2 := Lib.hid (HN2.out hbig)
          have HU3 := Lib.hid (HN3.out hbig)
          have hbig : ¬ B > 4611686018427387904 := by omega
          have hB0 : 0 ≤ B := HBB.out.1
          by_cases hmo : most < B
          · have HU := Lib.hid (HU2.out hmo)
            go_wp2_with fail
            refine HF4.out.mono ?_
            rintro e w3 ⟨rfl, hr3⟩
            have HR := Lib.hid (show RRdAt w w3 g [] 4 from ⟨hr3.1, HG.out.trans hr3.2⟩)
            obtain ⟨⟨v3, hk3, _⟩, _⟩ := hr3
            have e1 : w3.cell? ⟨g, 1, none⟩ = some (.int .i64 4) := hk3.cell 1
            clear hk3 HF5 HF4
            go_wp2
            go_ret
            rw [HU.out]
            exact ⟨rfl, HR.out⟩
          · have HU := Lib.hid (HU3.out (by omega))
            go_wp2
            go_ret
            rw [HU.out]
            exact ⟨by first | rfl | simp, HR2.out, HG.out⟩

theorem RRdAt.same {w : World} {g : Nat} {bs : List Int} {e : Int} (h : RRd w g bs e) : RRdAt w w g bs e := ⟨h, World.grownBy.refl w (some g)⟩

theorem refRuint_any (g : Nat) (bs : List Int) (er most : Int) (w : World) (hB : IsB bs) (hl : bs.length ≤ 140737488351232) (h : RRd w g bs er) :
    Calls Tryz.prog 49 #[.pointer (some ⟨g, 0, none⟩), .int .i64 most] w fun e w' => e = .returned (.int .i64 (uI most bs er).1) ∧ RRdAt w w' g (uI most bs er).2.1 (uI most bs er).2.2 := by
  by_cases he : er = 0
  · subst he
    cases bs with
    | nil => rw [uI_nil]; exact refUint_nil g most w h
    | cons hd r =>
      have h0 := hB hd (by simp)
      have hl' : r.length ≤ 140737488351232 := by simp at hl; omega
      by_cases h8 : 8 < hd
      · rw [uI_wide most hd r h8]; exact refUint_wide g hd r most w h8 h0.2 hl' h
      · by_cases hs : r.length < hd.toNat
        · rw [uI_short most hd r h8 hs]; exact refUint_cut g hd r most w h0.1 h8 hs h
        · exact refUint_read g hd r most w h0.1 h8 hs hl' (fun x hx => hB x (by simp [hx])) h
  · rw [uI_err most bs er he]
    exact (refUint_err g bs er most w he h).mono fun e w' ⟨h1, h2⟩ => ⟨h1, by subst h2; exact RRdAt.same h⟩

set_option maxHeartbeats 1000000 in
theorem refRbytes_any (g : Nat) (bs : List Int) (er most : Int) (w : World) (hB : IsB bs) (hl : bs.length ≤ 140737488351232) (h : RRd w g bs er) :
    Calls Tryz.prog 29 #[.pointer (some ⟨g, 0, none⟩), .int .i64 most] w fun e w' => ∃ x, e = .returned x ∧ Sl w' x ((bI most bs er).1.map (Value.int .u8)) ∧ RRdAt w w' g (bI most bs er).2.1 (bI most bs er).2.2 := by
  have HU := Lib.hid (refRuint_any g bs er most w hB hl h)
  have HV := Lib.hid (uI_val most bs er hB)
  have HL := Lib.hid (suf_len (uI_left most bs er))
  have HE := Lib.hid (bI_err most bs er)
  have HS := Lib.hid (bI_short most bs er)
  have HO := Lib.hid (bI_ok most bs er)
  have HLL := Lib.hid hl
  generalize bI most bs er = R at *
  generalize uI most bs er = U at *
  obtain ⟨n, lf, e2⟩ := U
  obtain ⟨N, rfl⟩ : ∃ N : Nat, n = N := ⟨n.toNat, by have := HV.out.1; simp at this; omega⟩
  simp only [Int.toNat_natCast] at HE HS HO HU HL
  clear h hB hl HV
  go_enter Tryz.func29, Tryz.ntmps29
  go_wp2_with fail
  refine HU.out.mono ?_
  rintro e w1 ⟨rfl, hr, hg⟩
  have HG := Lib.hid hg
  clear hg
  by_cases h2 : e2 = 0
  · subst h2
    by_cases hs : lf.length < N
    · have HR := Lib.hid (HS.out rfl hs)
      have HT := Lib.hid (refTake_short g lf N w1 hs hr)
      clear hs hr HE HO HS HL
      go_wp2_with fail
      refine HT.out.mono ?_
      rintro e w2 ⟨rfl, hr2, hg2⟩
      go_wp2
      go_ret
      rw [HR.out]
      exact ⟨_, rfl, Sl.nil _, hr2, HG.out.trans hg2⟩
    · have HR := Lib.hid (HO.out rfl hs)
      have HT := Lib.hid (refTake_ok g lf N w1 (by omega) (by have h1 := HL.out; have h2 := HLL.out; omega) hr)
      clear hs hr HE HO HS HL
      go_wp2_with fail
      refine HT.out.mono ?_
      rintro e w2 ⟨x, rfl, hx, hr2, hg2⟩
      go_wp2
      go_ret
      rw [HR.out]
      exact ⟨_, rfl, hx, hr2, HG.out.trans hg2⟩
  · have HR := Lib.hid (HE.out h2)
    have HT := Lib.hid (refTake_err g lf e2 N w1 h2 hr)
    have HRD := Lib.hid hr
    clear h2 hr HE HO HS HL
    go_wp2_with fail
    refine HT.out.mono ?_
    rintro e w2 ⟨rfl, rfl⟩
    go_wp2
    go_ret
    rw [HR.out]
    exact ⟨_, rfl, Sl.nil _, HRD.out, HG.out⟩

end Go.Proofs.YtjhannlioddkkaaGreatDoor

namespace Go.Proofs.YtjhannlioddkkaaGreatDoor
open Go.RowKit
set_option linter.unusedVariables false

theorem RRd.belowR {w w' : World} {g : Nat} {bs : List Int} {e : Int} (hr : RRd w g bs e) (hb : Below w.heap.size w w') : RRd w' g bs e := by
  obtain ⟨x, h1, h2⟩ := hr
  exact ⟨x, h1.belowS hb, h2.below hb (Nat.le_refl _)⟩
theorem RRd.slR {w w' : World} {g : Nat} {bs : List Int} {e : Int} (hr : RRd w g bs e) (hg : w.grownBy w' (some g)) {u : Value} {zs : List Int} (hu : Sl w u (zs.map (Value.int .u8))) : Sl w' u (zs.map (Value.int .u8)) := by
  obtain ⟨x, h1, h2⟩ := hr
  exact hu.keepG h1 (rrd_noB x h2.val e) hg
theorem RRd.keepT {w w' : World} {base : Nat} {v : Value} {pss : List (List Int)} (hO : OSls w base v pss) {g : Nat} {bs : List Int} {e : Int} (hr : RRd w g bs e) (hg : w.grownBy w' v.ownBlock) : RRd w' g bs e := by
  obtain ⟨vs, h1, h2⟩ := hO
  obtain ⟨x, k, hx⟩ := hr
  exact ⟨x, k.grown hg (fun e => own_blk_ne h1.1 k (by decide) e.symm), hx.keepK h1 hg⟩

structure RDecS (W w : World) (g gr : Nat) (e1 e2 e4 : Int) (tv lv ov : Value) (tb lb : List Int) (pss : List (List Int)) (rest : List Int) (er : Int) : Prop where
  kR : Blk w gr 25 #[.int .i64 e1, .int .i64 e2, tv, .int .i64 e4, lv, ov]
  hO : OSls w W.heap.size ov pss
  hr : RRd w g rest er
  ht : Sl w tv (tb.map (Value.int .u8))
  hl : Sl w lv (lb.map (Value.int .u8))
  kZ : Blk w W.heap.size 25 #[.int .i64 0, .int .i64 0, .slice none 0 0, .int .i64 0, .slice none 0 0, .slice none 0 0]
  hb : Below W.heap.size W w
  h1 : g ≠ gr
  h2 : W.heap.size < g
  h3 : W.heap.size < gr

section
variable {W w w1 : World} {g gr : Nat} {e1 e2 e4 : Int} {tv lv ov : Value} {tb lb : List Int} {pss : List (List Int)} {rest : List Int} {er : Int}
theorem RDecS.below (h : RDecS W w g gr e1 e2 e4 tv lv ov tb lb pss rest er) (hb : Below w.heap.size w w1) : RDecS W w1 g gr e1 e2 e4 tv lv ov tb lb pss rest er :=
  ⟨h.kR.belowS hb, h.hO.below hb, h.hr.belowR hb, h.ht.below hb (Nat.le_refl _), h.hl.below hb (Nat.le_refl _), h.kZ.belowS hb, below_trans2 h.hb hb, h.h1, h.h2, h.h3⟩
theorem OSls.keepRR {base : Nat} {v : Value} (h : OSls w base v pss) {bs : List Int} {e : Int} (hr : RRd w g bs e) (hg : w.grownBy w1 (some g)) : OSls w1 base v pss := by
  obtain ⟨x, k, hx⟩ := hr
  exact h.keepGk k (by decide) (rrd_noB x hx.val e) hg
theorem RDecS.read (h : RDecS W w g gr e1 e2 e4 tv lv ov tb lb pss rest er) {rest' : List Int} {er' : Int} (hR : RRdAt w w1 g rest' er') : RDecS W w1 g gr e1 e2 e4 tv lv ov tb lb pss rest' er' :=
  ⟨h.kR.grown hR.2 (by intro e; cases e; exact h.h1 rfl), h.hO.keepRR h.hr hR.2, hR.1, h.hr.slR hR.2 h.ht, h.hr.slR hR.2 h.hl, h.kZ.grown hR.2 (by intro e; cases e; exact absurd h.h2 (Nat.lt_irrefl _)), below_of_only h.hb hR.2 (Nat.le_of_lt h.h2) h.hb.size, h.h1, h.h2, h.h3⟩
theorem RDecS.noB (h : RDecS W w g gr e1 e2 e4 tv lv ov tb lb pss rest er) : ∀ (j : Nat) (n : Int), (#[.int .i64 e1, .int .i64 e2, tv, .int .i64 e4, lv, ov] : Array Value)[j]? ≠ some (.int .u8 n) := by
  obtain ⟨ta, tn, tc, e1'⟩ := h.ht.val
  obtain ⟨la, ln, lc, e2'⟩ := h.hl.val
  obtain ⟨oa, oc, e3'⟩ := h.hO.val
  exact rec_noB ⟨_, _, _, e1'⟩ ⟨_, _, _, e2'⟩ ⟨_, _, _, e3'⟩
theorem set_only (w : World) (g i : Nat) (u : Value) : w.grownBy (w.setCell ⟨g, i, none⟩ u) (some g) := only_setCell (p := ⟨g, i, none⟩) (World.grownBy.refl _ _) (.inl rfl) _
theorem RDecS.keep (h : RDecS W w g gr e1 e2 e4 tv lv ov tb lb pss rest er) (hg : w.grownBy w1 (some gr)) :
    OSls w1 W.heap.size ov pss ∧ RRd w1 g rest er ∧ Sl w1 tv (tb.map (Value.int .u8)) ∧ Sl w1 lv (lb.map (Value.int .u8)) ∧ Blk w1 W.heap.size 25 #[.int .i64 0, .int .i64 0, .slice none 0 0, .int .i64 0, .slice none 0 0, .slice none 0 0] ∧ Below W.heap.size W w1 := by
  obtain ⟨x, r1, r2⟩ := h.hr
  exact ⟨h.hO.keepGk h.kR (by decide) h.noB hg, ⟨x, r1.grown hg (by intro e; cases e; exact h.h1 rfl), r2.keepG h.kR h.noB hg⟩, h.ht.keepG h.kR h.noB hg, h.hl.keepG h.kR h.noB hg, h.kZ.grown hg (by intro e; cases e; exact absurd h.h3 (Nat.lt_irrefl _)), below_of_only h.hb hg (Nat.le_of_lt h.h3) h.hb.size⟩
theorem RDecS.set1 (h : RDecS W w g gr e1 e2 e4 tv lv ov tb lb pss rest er) (u : Int) : RDecS W (w.setCell ⟨gr, 1, none⟩ (.int .i64 u)) g gr e1 u e4 tv lv ov tb lb pss rest er := by
  obtain ⟨k1, k2, k3, k4, k5, k6⟩ := h.keep (set_only w gr 1 (.int .i64 u))
  exact ⟨h.kR.set_ 1 _, k1, k2, k3, k4, k5, k6, h.h1, h.h2, h.h3⟩
theorem RDecS.set2 (h : RDecS W w g gr e1 e2 e4 tv lv ov tb lb pss rest er) {u : Value} {zs : List Int} (hu : Sl w u (zs.map (Value.int .u8))) : RDecS W (w.setCell ⟨gr, 2, none⟩ u) g gr e1 e2 e4 u lv ov zs lb pss rest er := by
  obtain ⟨k1, k2, k3, k4, k5, k6⟩ := h.keep (set_only w gr 2 u)
  exact ⟨h.kR.set_ 2 _, k1, k2, hu.keepG h.kR h.noB (set_only w gr 2 u), k4, k5, k6, h.h1, h.h2, h.h3⟩
theorem RDecS.set3 (h : RDecS W w g gr e1 e2 e4 tv lv ov tb lb pss rest er) (u : Int) : RDecS W (w.setCell ⟨gr, 3, none⟩ (.int .i64 u)) g gr e1 e2 u tv lv ov tb lb pss rest er := by
  obtain ⟨k1, k2, k3, k4, k5, k6⟩ := h.keep (set_only w gr 3 (.int .i64 u))
  exact ⟨h.kR.set_ 3 _, k1, k2, k3, k4, k5, k6, h.h1, h.h2, h.h3⟩
theorem RDecS.set4 (h : RDecS W w g gr e1 e2 e4 tv lv ov tb lb pss rest er) {u : Value} {zs : List Int} (hu : Sl w u (zs.map (Value.int .u8))) : RDecS W (w.setCell ⟨gr, 4, none⟩ u) g gr e1 e2 e4 tv u ov tb zs pss rest er := by
  obtain ⟨k1, k2, k3, k4, k5, k6⟩ := h.keep (set_only w gr 4 u)
  exact ⟨h.kR.set_ 4 _, k1, k2, k3, hu.keepG h.kR h.noB (set_only w gr 4 u), k5, k6, h.h1, h.h2, h.h3⟩
theorem RDecS.app (h : RDecS W w g gr e1 e2 e4 tv lv ov tb lb pss rest er) {ov' : Value} {pss' : List (List Int)} (hO : OSls w1 W.heap.size ov' pss') (hg : w.grownBy w1 ov.ownBlock) :
    w1.cell? ⟨gr, 5, none⟩ = some ov ∧ w1.frozen? ⟨gr, 5, none⟩ = false ∧ RDecS W (w1.setCell ⟨gr, 5, none⟩ ov') g gr e1 e2 e4 tv lv ov' tb lb pss' rest er := by
  have kR := h.kR.keepO h.hO hg (by decide)
  have hr := RRd.keepT h.hO h.hr hg
  have kZ := h.kZ.keepO h.hO hg (by decide)
  have hOO := h.hO
  obtain ⟨vs, o1, o2⟩ := hOO
  have ht := h.ht.keepK o1 hg
  have hl := h.hl.keepK o1 hg
  have hb : Below W.heap.size W w1 := h.hb.grown hg h.hb.size (fun k hk => (o1.1.lt k hk).1)
  have hNB := h.noB
  have hgS := set_only w1 gr 5 ov'
  obtain ⟨x, r1, r2⟩ := hr
  refine ⟨kR.cell 5, kR.frozen 5, kR.set_ 5 _, hO.keepGk kR (by decide) hNB hgS, ⟨x, r1.grown hgS (by intro e; cases e; exact h.h1 rfl), r2.keepG kR hNB hgS⟩, ht.keepG kR hNB hgS, hl.keepG kR hNB hgS, kZ.grown hgS (by intro e; cases e; exact absurd h.h3 (Nat.lt_irrefl _)), below_of_only hb hgS (Nat.le_of_lt h.h3) hb.size, h.h1, h.h2, h.h3⟩
theorem RDecS.stored (h : RDecS W w g gr e1 e2 e4 tv lv ov tb lb pss rest er) (hg : w.grownBy w1 (some W.heap.size)) :
    RecV w1 (.agg #[.int .i64 e1, .int .i64 e2, tv, .int .i64 e4, lv, ov]) e1 e2 tb e4 lb pss ∧ Below W.heap.size W w1 := by
  have hNB := rec_noB (e1 := 0) (e2 := 0) (e4 := 0) (tv := .slice none 0 0) (lv := .slice none 0 0) (ov := .slice none 0 0) ⟨_, _, _, rfl⟩ ⟨_, _, _, rfl⟩ ⟨_, _, _, rfl⟩
  exact ⟨⟨tv, lv, ov, rfl, h.ht.keepG h.kZ hNB hg, h.hl.keepG h.kZ hNB hg, (h.hO.keepGk h.kZ (by decide) hNB hg).sls⟩, below_of_only h.hb hg (Nat.le_refl _) h.hb.size⟩
end

theorem rrend_any (g : Nat) (bs : List Int) (er : Int) (w : World) (h : RRd w g bs er) :
    Calls Tryz.prog 52 #[.pointer (some ⟨g, 0, none⟩)] w fun e w' => e = .returned (.int .i64 (endI er bs)) ∧ w = w' := by
  obtain ⟨a, c, hk, hs⟩ := h.val
  have q0 : w.cell? ⟨g, 0, none⟩ = some (.slice a bs.length c) := hk.cell 0
  have q1 : w.cell? ⟨g, 1, none⟩ = some (.int .i64 er) := hk.cell 1
  clear h hk hs
  by_cases he : er = 0
  · have hn : (er == 0) = true := by simp [he]
    by_cases hb : bs.length = 0
    · have HD := Lib.hid (show endI er bs = er by unfold endI; rw [if_pos he, if_pos (List.length_eq_zero_iff.1 hb), he])
      have hI : ¬ (0 : Int) < (bs.length : Int) := by omega
      have hI2 : ¬ 0 < bs.length := by omega
      clear hb he
      go_enter Tryz.func52, Tryz.ntmps52
      go_wp2
      go_ret
      exact ⟨ret_int HD.out.symm, rfl⟩
    · have HD := Lib.hid (show endI er bs = 5 by unfold endI; rw [if_pos he, if_neg (fun h => hb (by rw [h]; rfl))])
      have hI : 0 < bs.length := by omega
      clear hb he
      go_enter Tryz.func52, Tryz.ntmps52
      go_wp2
      go_ret
      exact ⟨ret_int HD.out.symm, rfl⟩
  · have HD := Lib.hid (show endI er bs = er by unfold endI; rw [if_neg he])
    have hn : (er == 0) = false := by simp [he]
    clear he
    go_enter Tryz.func52, Tryz.ntmps52
    go_wp2
    go_ret
    exact ⟨ret_int HD.out.symm, rfl⟩

end Go.Proofs.YtjhannlioddkkaaGreatDoor

namespace Go.Proofs.YtjhannlioddkkaaGreatDoor
open Go.RowKit
set_option linter.unusedVariables false

/-- What Take takes: the piece, what is left, the error. -/
def tkI (z : Nat) (r : List Int) (e : Int) : List Int × List Int × Int :=
  if e ≠ 0 then ([], r, e) else if r.length < z then ([], [], 3) else (r.take z, r.drop z, 0)
def tkStep (z : Nat) (s : List (List Int) × List Int × Int) : List (List Int) × List Int × Int :=
  (s.1 ++ [(tkI z s.2.1 s.2.2).1], (tkI z s.2.1 s.2.2).2.1, (tkI z s.2.1 s.2.2).2.2)
def tkN (z : Nat) : Nat → List (List Int) × List Int × Int → List (List Int) × List Int × Int
  | 0, s => s
  | k + 1, s => tkStep z (tkN z k s)

theorem tkN_len (z k : Nat) (s : List (List Int) × List Int × Int) : (tkN z k s).1.length = s.1.length + k := by
  induction k with
  | zero => rfl
  | succ k ih => show ((tkN z k s).1 ++ [_]).length = _; rw [List.length_append, ih, List.length_singleton]; omega
theorem tkI_suf (z : Nat) (r : List Int) (e : Int) : (tkI z r e).2.1.length ≤ r.length := by
  unfold tkI
  split
  · exact Nat.le_refl _
  · split
    · simp
    · simp
theorem tkN_suf (z k : Nat) (s : List (List Int) × List Int × Int) : (tkN z k s).2.1.length ≤ s.2.1.length := by
  induction k with
  | zero => exact Nat.le_refl _
  | succ k ih => exact Nat.le_trans (tkI_suf _ _ _) ih
theorem tkN_err (z k : Nat) (l : List (List Int)) (r : List Int) (e : Int) (he : e ≠ 0) : (tkN z k (l, r, e)).2 = (r, e) := by
  induction k with
  | zero => rfl
  | succ k ih =>
    show ((tkI z (tkN z k (l, r, e)).2.1 (tkN z k (l, r, e)).2.2).2.1, (tkI z (tkN z k (l, r, e)).2.1 (tkN z k (l, r, e)).2.2).2.2) = _
    rw [ih]
    unfold tkI
    rw [if_pos he]
theorem tkN_short (z k : Nat) (l : List (List Int)) (r : List Int) (hs : ¬ z * k ≤ r.length) : (tkN z k (l, r, 0)).2 = ([], 3) ∨ ∃ j, (tkN z k (l, r, 0)).2 = (r.drop (z * j), 0) ∧ z * k ≤ r.length := by
  induction k with
  | zero => simp at hs
  | succ k ih =>
    left
    show ((tkI z (tkN z k (l, r, 0)).2.1 (tkN z k (l, r, 0)).2.2).2.1, (tkI z (tkN z k (l, r, 0)).2.1 (tkN z k (l, r, 0)).2.2).2.2) = _
    by_cases hk : z * k ≤ r.length
    · have h2 : ∀ j, z * j ≤ r.length → (tkN z j (l, r, 0)).2 = (r.drop (z * j), 0) := by
        intro j
        induction j with
        | zero => intro _; simp [tkN]
        | succ j jh =>
          intro hj
          have hj' : z * j ≤ r.length := Nat.le_trans (Nat.mul_le_mul (Nat.le_refl z) (Nat.le_succ j)) hj
          show ((tkI z (tkN z j (l, r, 0)).2.1 (tkN z j (l, r, 0)).2.2).2.1, (tkI z (tkN z j (l, r, 0)).2.1 (tkN z j (l, r, 0)).2.2).2.2) = _
          rw [jh hj']
          unfold tkI
          rw [if_neg (by simp), if_neg (by rw [List.length_drop]; rw [Nat.mul_succ] at hj; omega)]
          simp [Nat.mul_succ, List.drop_drop]
      rw [h2 k hk]
      unfold tkI
      rw [if_neg (by simp), if_pos (by rw [List.length_drop]; rw [Nat.mul_succ] at hs; omega)]
    · rcases ih hk with h | ⟨j, _, h⟩
      · rw [h]
        unfold tkI
        rw [if_pos (by decide)]
      · exact absurd h hk
theorem tkN_ok (z k : Nat) (r : List Int) (hk : z * k ≤ r.length) : tkN z k ([], r, 0) = (chunksI z r 0 k, r.drop (z * k), 0) := by
  induction k with
  | zero => simp [tkN, chunksI]
  | succ k ih =>
    have hk' : z * k ≤ r.length := Nat.le_trans (Nat.mul_le_mul (Nat.le_refl z) (Nat.le_succ k)) hk
    show tkStep z (tkN z k ([], r, 0)) = _
    rw [ih hk', chunksI_succ, Nat.zero_add]
    unfold tkStep tkI
    rw [if_neg (by simp), if_neg (by rw [List.length_drop]; rw [Nat.mul_succ] at hk; omega)]
    simp [Nat.mul_succ, List.drop_drop, chunkI]
theorem chunkI_drop (z n : Nat) (r : List Int) (i : Nat) : chunkI z (r.drop (z * n)) i = chunkI z r (n + i) := by
  unfold chunkI
  rw [List.drop_drop, ← Nat.mul_add]
theorem chunksI_drop (z n H : Nat) (r : List Int) : chunksI z (r.drop (z * n)) 0 H = chunksI z r n H := by
  unfold chunksI
  refine List.map_congr_left fun i _ => ?_
  rw [chunkI_drop, Nat.zero_add]

/-- Both of Read's rounds: what is left, and the error. -/
theorem tk_two (z n H : Nat) (r : List Int) (e : Int) :
    (e ≠ 0 → (tkN z H ([], (tkN z n ([], r, e)).2.1, (tkN z n ([], r, e)).2.2)).2.2 = e) ∧
    (e = 0 → ¬ z * (n + H) ≤ r.length → (tkN z H ([], (tkN z n ([], r, e)).2.1, (tkN z n ([], r, e)).2.2)).2.2 = 3) ∧
    (e = 0 → z * (n + H) ≤ r.length → (tkN z n ([], r, e)).1 = chunksI z r 0 n ∧ tkN z H ([], (tkN z n ([], r, e)).2.1, (tkN z n ([], r, e)).2.2) = (chunksI z r n H, r.drop (z * (n + H)), 0)) := by
  refine ⟨fun he => ?_, fun he hs => ?_, fun he hs => ?_⟩
  · rw [tkN_err z n [] r e he, tkN_err z H [] r e he]
  · subst he
    by_cases hn : z * n ≤ r.length
    · rw [tkN_ok z n r hn]
      have h2 : ¬ z * H ≤ (r.drop (z * n)).length := by rw [List.length_drop]; rw [Nat.mul_add] at hs; omega
      rcases tkN_short z H [] (r.drop (z * n)) h2 with h | ⟨j, _, h⟩
      · rw [h]
      · exact absurd h h2
    · rcases tkN_short z n [] r hn with h | ⟨j, _, h⟩
      · rw [h, tkN_err z H [] [] 3 (by decide)]
      · exact absurd h hn
  · subst he
    have hn : z * n ≤ r.length := Nat.le_trans (Nat.mul_le_mul (Nat.le_refl z) (Nat.le_add_right n H)) hs
    rw [tkN_ok z n r hn]
    refine ⟨rfl, ?_⟩
    show tkN z H ([], r.drop (z * n), 0) = _
    rw [tkN_ok z H (r.drop (z * n)) (by rw [List.length_drop]; rw [Nat.mul_add] at hs; omega), chunksI_drop, List.drop_drop, ← Nat.mul_add]

theorem refTake_any (g : Nat) (bs : List Int) (er : Int) (z : Nat) (w : World) (hz : z ≤ 32) (hl : bs.length ≤ 140737488351232) (h : RRd w g bs er) :
    Calls Tryz.prog 50 #[.pointer (some ⟨g, 0, none⟩), .int .i64 z] w fun e w' => ∃ x, e = .returned x ∧ Sl w' x ((tkI z bs er).1.map (Value.int .u8)) ∧ RRdAt w w' g (tkI z bs er).2.1 (tkI z bs er).2.2 := by
  by_cases he : er = 0
  · subst he
    by_cases hs : bs.length < z
    · have e : tkI z bs 0 = ([], [], 3) := by unfold tkI; rw [if_neg (by simp), if_pos hs]
      rw [e]
      exact (refTake_short g bs z w hs h).mono fun e w' ⟨h1, h2⟩ => ⟨_, h1, Sl.nil _, h2⟩
    · have e : tkI z bs 0 = (bs.take z, bs.drop z, 0) := by unfold tkI; rw [if_neg (by simp), if_neg hs]
      rw [e]
      exact refTake_ok g bs z w (by omega) (by omega) h
  · have e : tkI z bs er = ([], bs, er) := by unfold tkI; rw [if_pos he]
    rw [e]
    exact (refTake_err g bs er z w he h).mono fun e w' ⟨h1, h2⟩ => ⟨_, h1, Sl.nil _, by subst h2; exact RRdAt.same h⟩

/-- What stands while the reference reads a signature. -/
structure MrrS (w wr : World) (g gs : Nat) (idx : Int) (vp vq : Value) (Bq : Nat) (P Q : List (List Int)) (rest : List Int) (er : Int) : Prop where
  ms : MrS w wr gs idx vp vq Bq P Q
  hr : RRd wr g rest er
  h1 : g ≠ gs
  h2 : w.heap.size < g
theorem MrrS.below {w wr w1 : World} {g gs Bq : Nat} {idx : Int} {vp vq : Value} {P Q : List (List Int)} {rest : List Int} {er : Int} (h : MrrS w wr g gs idx vp vq Bq P Q rest er) (hb : Below wr.heap.size wr w1) : MrrS w w1 g gs idx vp vq Bq P Q rest er :=
  ⟨h.ms.below hb, h.hr.belowR hb, h.h1, h.h2⟩
theorem MrrS.read {w wr w1 : World} {g gs Bq : Nat} {idx : Int} {vp vq : Value} {P Q : List (List Int)} {rest rest' : List Int} {er er' : Int} (h : MrrS w wr g gs idx vp vq Bq P Q rest er) (hR : RRdAt wr w1 g rest' er') : MrrS w w1 g gs idx vp vq Bq P Q rest' er' :=
  ⟨⟨h.ms.kS.grown hR.2 (by intro e; cases e; exact h.h1 rfl), h.ms.kZ.grown hR.2 (by intro e; cases e; exact absurd h.h2 (Nat.lt_irrefl _)), h.ms.hP.keepRR h.hr hR.2, h.ms.hQ.keepRR h.hr hR.2, h.ms.ne, Nat.le_trans h.ms.le hR.2.size, h.ms.lo, below_of_only h.ms.bel hR.2 (Nat.le_of_lt h.h2) h.ms.bel.size, h.ms.zs⟩, hR.1, h.h1, h.h2⟩
theorem MrrS.app1 {w wr w5 : World} {g gs Bq : Nat} {idx : Int} {vp v5 : Value} {P P5 : List (List Int)} {rest : List Int} {er : Int} (h : MrrS w wr g gs idx vp (.slice none 0 0) Bq P [] rest er) (hO : OSls w5 w.heap.size v5 P5) (hg : wr.grownBy w5 vp.ownBlock) (hb : Below w.heap.size wr w5) :
    w5.frozen? ⟨gs, 1, none⟩ = false ∧ w5.cell? ⟨gs, 1, none⟩ = some vp ∧ MrrS w (w5.setCell ⟨gs, 1, none⟩ v5) g gs idx v5 (.slice none 0 0) w5.heap.size P5 [] rest er := by
  obtain ⟨f, q, hS, hk⟩ := h.ms.app1 hO hg hb
  have k5 := h.ms.kS.keepO h.ms.hP hg (by decide)
  obtain ⟨x, r1, r2⟩ := RRd.keepT h.ms.hP h.hr hg
  exact ⟨f, q, hS, ⟨x, r1.grown (set_only w5 gs 1 v5) (by intro e; cases e; exact h.h1 rfl), r2.keepG k5 (sig_noB h.ms.hP.isSl ⟨_, _, _, rfl⟩) (set_only w5 gs 1 v5)⟩, h.h1, h.h2⟩
theorem MrrS.app2 {w wr w5 : World} {g gs Bq : Nat} {idx : Int} {vp vq v5 : Value} {P Q Q5 : List (List Int)} {rest : List Int} {er : Int} (h : MrrS w wr g gs idx vp vq Bq P Q rest er) (hO : OSls w5 Bq v5 Q5) (hg : wr.grownBy w5 vq.ownBlock) (hb : Below Bq wr w5) :
    w5.frozen? ⟨gs, 2, none⟩ = false ∧ w5.cell? ⟨gs, 2, none⟩ = some vq ∧ MrrS w (w5.setCell ⟨gs, 2, none⟩ v5) g gs idx vp v5 Bq P Q5 rest er := by
  obtain ⟨f, q, hS, hk⟩ := h.ms.app2 hO hg hb h.ms.lo
  have k5 := h.ms.kS.keepO h.ms.hQ hg (by decide)
  obtain ⟨x, r1, r2⟩ := RRd.keepT h.ms.hQ h.hr hg
  exact ⟨f, q, hS, ⟨x, r1.grown (set_only w5 gs 2 v5) (by intro e; cases e; exact h.h1 rfl), r2.keepG k5 (sig_noB h.ms.hP.isSl h.ms.hQ.isSl) (set_only w5 gs 2 v5)⟩, h.h1, h.h2⟩
/-- The second row begins. -/
theorem MrrS.rebase {w wr : World} {g gs Bq : Nat} {idx : Int} {vp : Value} {P : List (List Int)} {rest : List Int} {er : Int} (h : MrrS w wr g gs idx vp (.slice none 0 0) Bq P [] rest er) : MrrS w wr g gs idx vp (.slice none 0 0) wr.heap.size P [] rest er :=
  ⟨⟨h.ms.kS, h.ms.kZ, h.ms.hP, OSls.nil _ _, fun g hg => Nat.lt_of_lt_of_le (h.ms.ne g hg) h.ms.le, Nat.le_refl _, h.ms.bel.size, h.ms.bel, h.ms.zs⟩, h.hr, h.h1, h.h2⟩

end Go.Proofs.YtjhannlioddkkaaGreatDoor

namespace Go.Proofs.YtjhannlioddkkaaGreatDoor
open Go.RowKit
set_option linter.unusedVariables false

set_option maxRecDepth 100000 in
set_option maxHeartbeats 2000000 in
theorem rmread_no (size height : Int) (v : Value) (bs : List Int) (w : World) (hcan : mcanB size height = false) (hs : Sl w v (bs.map (Value.int .u8))) :
    Calls Tryz.prog 31 #[.int .i64 size, .int .i64 height, v] w fun e w' => ∃ x y, e = .returned (.tuple #[x, y, .int .i64 (mrC size height bs)]) ∧ MrRes w w' size height bs x y := by
  obtain ⟨va, vc, rfl, hc, hm⟩ := hs.shape
  rw [List.length_map] at *
  have hb1 : Below w.heap.size w (w.alloc (.cells #[.int .i64 0, .slice none 0 0, .slice none 0 0] 27)) := (Below.refl _ _).alloc (Nat.le_refl _) _
  have kZ := Blk.new w 27 #[.int .i64 0, .slice none 0 0, .slice none 0 0]
  have HSZ := Lib.hid (show w.heap.size ≤ (w.alloc (.cells #[.int .i64 0, .slice none 0 0, .slice none 0 0] 27)).heap.size by simp)
  have hC1 : mrC size height bs = 1 := by unfold mrC; rw [if_pos hcan]
  have HC1 := Lib.hid hC1
  have HB1 := Lib.hid hb1
  obtain ⟨z0, z1, z2⟩ := rec3 kZ
  have f0 := kZ.frozen 0
  have f1 := kZ.frozen 1
  have f2 := kZ.frozen 2
  have hcan' : ¬ (1 ≤ size ∧ size ≤ 32 ∧ 0 ≤ height ∧ height ≤ 8) := by unfold mcanB at hcan; exact of_decide_eq_false hcan
  clear hC1 hcan hs hb1 kZ
  have key : size < 1 ∨ (¬ size < 1 ∧ 32 < size) ∨ (¬ size < 1 ∧ ¬ 32 < size ∧ height < 0) ∨ (¬ size < 1 ∧ ¬ 32 < size ∧ ¬ height < 0 ∧ 8 < height) := by omega
  clear hcan'
  go_enter Tryz.func31, Tryz.ntmps31
  go_upto_region 1 with (fail)
  generalize (w.alloc (.cells #[.int .i64 0, .slice none 0 0, .slice none 0 0] 27)) = w1 at *
  rcases key with h | ⟨h1, h⟩ | ⟨h1, h2, h⟩ | ⟨h1, h2, h3, h⟩
  all_goals
    go_wp2
    exact bodyPost_ret (by rw [results_cell_tmp2 rfl]; go_simp; exact rfl) rfl ⟨_, _, by rw [HC1.out], MrRes.no (set3_below HB1.out (Nat.le_refl _) HSZ.out _ _ _) (by rw [HC1.out]; decide)⟩

set_option maxRecDepth 100000 in
set_option maxHeartbeats 8000000 in
theorem rmread_any (size height : Int) (v : Value) (bs : List Int) (w : World) (hz0 : -9223372036854775808 ≤ size) (hz1 : size ≤ 9223372036854775807) (hh0 : -9223372036854775808 ≤ height) (hh1 : height ≤ 9223372036854775807) (hl : bs.length ≤ 140737488351232) (hB : IsB bs) (hs : Sl w v (bs.map (Value.int .u8))) :
    Calls Tryz.prog 31 #[.int .i64 size, .int .i64 height, v] w fun e w' => ∃ x y, e = .returned (.tuple #[x, y, .int .i64 (mrC size height bs)]) ∧ MrRes w w' size height bs x y := by
  by_cases hcan : mcanB size height = true
  rotate_left
  · exact rmread_no size height v bs w (by simpa using hcan) hs
  obtain ⟨va, vc, rfl, hc, hm⟩ := hs.shape
  rw [List.length_map] at *
  have hb1 : Below w.heap.size w (w.alloc (.cells #[.int .i64 0, .slice none 0 0, .slice none 0 0] 27)) := (Below.refl _ _).alloc (Nat.le_refl _) _
  have kZ := Blk.new w 27 #[.int .i64 0, .slice none 0 0, .slice none 0 0]
  have hs1 := hs.below hb1 (Nat.le_refl _)
  have hsz1 : (w.alloc (.cells #[.int .i64 0, .slice none 0 0, .slice none 0 0] 27)).heap.size = w.heap.size + 1 := by simp
  have HLL := Lib.hid hl
  have HB := Lib.hid hB
  clear hs hl hB
  have hcan' : 1 ≤ size ∧ size ≤ 32 ∧ 0 ≤ height ∧ height ≤ 8 := by unfold mcanB at hcan; exact of_decide_eq_true hcan
  obtain ⟨z, rfl⟩ : ∃ z : Nat, size = z := ⟨size.toNat, by omega⟩
  obtain ⟨H, rfl⟩ : ∃ H : Nat, height = H := ⟨height.toNat, by omega⟩
  have hz : 1 ≤ z ∧ z ≤ 32 := by omega
  have hH : H ≤ 8 := by omega
  obtain ⟨P, hP⟩ : ∃ P : Nat, P = 2 ^ H := ⟨_, rfl⟩
  have hP1 : 1 ≤ P ∧ P ≤ 256 := by rw [hP]; exact ⟨Nat.one_le_two_pow, Nat.pow_le_pow_right (by omega) hH⟩
  have hPI : ((2 : Int) ^ H) = (P : Int) := by rw [show ((2 : Int) ^ H) = ((2 ^ H : Nat) : Int) by simp, ← hP]
  have hW : wrap64 ((2 : Int) ^ H) = (P : Int) := by rw [hPI]; unfold wrap64; omega
  have hW2 : wrap64 ((P : Int) - 1) = (P : Int) - 1 := by unfold wrap64; omega
  have hMU : mrU H bs = uI ((P : Int) - 1) bs 0 := by unfold mrU; rw [hPI]
  have hC1 : mrC z H bs = if (mrU H bs).2.2 ≠ 0 then (mrU H bs).2.2 else if (mrU H bs).2.1.length < z * (4 * z + 5 + H) then 3 else 0 := by unfold mrC mrNeed; rw [if_neg (by simp [hcan])]; simp
  have HPO : Hid (∀ (w' : World) (x y : Value), ((mrC z H bs = 0 → SigV w' x (mrU H bs).1 (chunksI z (mrU H bs).2.1 0 (4 * z + 5)) (chunksI z (mrU H bs).2.1 (4 * z + 5) H) ∧ Sl w' y (((mrU H bs).2.1.drop (z * (4 * z + 5 + H))).map (Value.int .u8))) ∧
      (¬ mrC z H bs = 0 → x = .agg #[.int .i64 0, .slice none 0 0, .slice none 0 0] ∧ y = .slice none 0 0) ∧ Below w.heap.size w w') → MrRes w w' z H bs x y) := fun w' x y h => by
    unfold MrRes mrParts mrPath mrNeed
    simpa using h
  have HLR := Lib.hid (suf_len (uI_left ((P : Int) - 1) bs 0))
  have HRU := Lib.hid (fun (g : Nat) (w1 : World) (h : RRd w1 g bs 0) => refRuint_any g bs 0 ((P : Int) - 1) w1 HB.out HLL.out h)
  rw [← hMU] at HRU HLR
  have HC1 := Lib.hid hC1
  generalize mrU H bs = U at *
  obtain ⟨idx, rest, err⟩ := U
  simp only at HC1 HPO HRU HLR
  generalize mrC z H bs = CC at *
  obtain ⟨t1, t2, t3⟩ := tk_two z (4 * z + 5) H rest err
  have HT1 := Lib.hid t1
  have HT2 := Lib.hid t2
  have HT3 := Lib.hid t3
  generalize hn : 4 * z + 5 = n at *
  have HN := Lib.hid (show n ≤ 133 by omega)
  have hni : 4 * (z : Int) + 5 = (n : Int) := by omega
  have HZL := Lib.hid hz
  clear hcan hcan' hP hPI hMU hC1 t1 t2 t3 hn
  go_enter Tryz.func31, Tryz.ntmps31
  go_upto_region 3 with (fail)
  have HSZ := Lib.hid hsz1
  clear hsz1
  generalize (w.alloc (.cells #[.int .i64 0, .slice none 0 0, .slice none 0 0] 27)) = w1 at *
  have hbE : Below w1.heap.size w1 (w1.alloc (.cells #[] 5)) := (Below.refl _ _).alloc (Nat.le_refl _) _
  have hown0 : (w1.alloc (.cells #[] 5)).ownsRow w1.heap.size 5 1 (.slice (some ⟨w1.heap.size, 0, none⟩) 0 0) 0 [] :=
    World.ownsRow_lit (base := w1.heap.size) (e := 5) (size := 1) w1 #[] 0 (Nat.le_refl _) (by simp [maxLen]) (by simp)
  have hsE := hs1.below hbE (Nat.le_refl _)
  obtain ⟨i0, hi, hz0', hz1', hz2'⟩ := info_parts info8c
  go_wp2_with (at_builtin; refine wpList_append_sl rfl _ _ 22 rfl w1.heap.size 5 i0 (.int .u8 0) 1 Tryz.underlying22 hi hz0' hz1' hz2' rfl _ 0 [] rfl hown0 (.slice va bs.length vc) (bs.map (Value.int .u8)) rfl hsE (one8 _) (by have := HLL.out; rw [List.length_map]; unfold maxLen; omega) (by have := HLL.out; rw [List.length_map]; omega) (by simp) ?_)
  intro xv w2 hown2 hg2
  have hb2 := below_grown hbE hown0 (Nat.le_refl _) (by simp) hg2
  have hxv : Sl w2 xv (bs.map (Value.int .u8)) := by simpa using Sl.of_owns hown2
  obtain ⟨xa, xn, xc, rfl⟩ := hxv.val
  have hbr := hb1.trans (hb2.mono hb1.size)
  have kZ := kZ.belowS hb2
  have hgP : Hid (w.heap.size < w2.heap.size) := by have := hb2.size; have := HSZ.out; show _ < _; omega
  have hbR : Below w2.heap.size w2 (w2.alloc (.cells #[.slice xa xn xc, .int .i64 0] 58)) := (Below.refl _ _).alloc (Nat.le_refl _) _
  have hr3 : RRd (w2.alloc (.cells #[.slice xa xn xc, .int .i64 0] 58)) w2.heap.size bs 0 := ⟨_, Blk.new w2 _ _, hxv.below hbR (Nat.le_refl _)⟩
  have kZ := kZ.belowS hbR
  have hbr := hbr.trans (hbR.mono hbr.size)
  have hgl3 : w2.heap.size < (w2.alloc (.cells #[.slice xa xn xc, .int .i64 0] 58)).heap.size := by simp
  have HU := Lib.hid (HRU.out w2.heap.size _ hr3)
  clear hown2 hg2 hbE hown0 hsE hb1 hb2 hs1 hxv hbR hr3 HRU
  go_wp2_with fail
  refine HU.out.mono ?_
  generalize (w2.alloc (.cells #[.slice xa xn xc, .int .i64 0] 58)) = w3 at *
  generalize w2.heap.size = g at *
  rintro e w4 ⟨rfl, hr4, hg4⟩
  have kZ := kZ.grown hg4 (by intro e; cases e; exact absurd hgP.out (Nat.lt_irrefl _))
  have hbr := below_of_only hbr hg4 (Nat.le_of_lt hgP.out) hbr.size
  have hgl4 : g < w4.heap.size := Nat.lt_of_lt_of_le hgl3 hg4.size
  have hbG : Below w4.heap.size w4 (w4.alloc (.cells #[.int .i64 idx, .slice none 0 0, .slice none 0 0] 27)) := (Below.refl _ _).alloc (Nat.le_refl _) _
  have HM0 := Lib.hid (show MrrS w (w4.alloc (.cells #[.int .i64 idx, .slice none 0 0, .slice none 0 0] 27)) g w4.heap.size idx (.slice none 0 0) (.slice none 0 0) (w4.alloc (.cells #[.int .i64 idx, .slice none 0 0, .slice none 0 0] 27)).heap.size (tkN z 0 ([], rest, err)).1 [] (tkN z 0 ([], rest, err)).2.1 (tkN z 0 ([], rest, err)).2.2 from
    ⟨⟨Blk.new w4 _ _, kZ.belowS hbG, OSls.nil _ _, OSls.nil _ _, fun g hg => by simp [Value.ownBlock] at hg, Nat.le_refl _, (below_trans2 hbr hbG).size, below_trans2 hbr hbG, by have := hgP.out; omega⟩, hr4.belowR hbG, by omega, hgP.out⟩)
  clear hr4 hg4 kZ hbr hbG hgl3 hgl4 HU hz hW2 hP1
  go_upto_region 5 with (fail)
  generalize (w4.alloc (.cells #[.int .i64 idx, .slice none 0 0, .slice none 0 0] 27)) = w5 at *
  generalize w4.heap.size = gs at *
  go_wp2
  clear hW hni
  go_loopw [40] (fun i wr => ∃ (k Bq : Nat) (vp : Value), i = .int .i64 k ∧ k ≤ n ∧ MrrS w wr g gs idx vp (.slice none 0 0) Bq (tkN z k ([], rest, err)).1 [] (tkN z k ([], rest, err)).2.1 (tkN z k ([], rest, err)).2.2) (fun i _ => n - (intOf i).toNat)
  case atStart => exact ⟨0, _, _, rfl, by omega, HM0.out⟩
  case round =>
    clear HM0
    obtain ⟨k, Bq, vp, rfl, hk, hS⟩ := hrel
    by_cases hlt : k < n
    · have hkI : (k : Int) < (n : Int) := by omega
      have HLT := Lib.hid hlt
      have HKW := Lib.hid (next_at (M := n) hlt (by have := HN.out; omega))
      have HLK := Lib.hid (show (tkN z k ([], rest, err)).1.length + 1 ≤ 5000000000000 by rw [tkN_len]; have := HN.out; simp only [List.length_nil]; omega)
      have HSL := Lib.hid (show (tkN z k ([], rest, err)).2.1.length ≤ 140737488351232 from Nat.le_trans (tkN_suf z k ([], rest, err)) (Nat.le_trans HLR.out HLL.out))
      have HST := Lib.hid (show tkN z (k + 1) ([], rest, err) = tkStep z (tkN z k ([], rest, err)) from rfl)
      generalize tkN z k ([], rest, err) = st at *
      obtain ⟨s1, s2, s3⟩ := st
      simp only at hS HSL HLK
      have hgr2 : w.heap.size ≤ wr.heap.size := hS.ms.bel.size
      obtain ⟨oa, oc, rfl⟩ := hS.ms.hP.val
      have q0 : wr.cell? ⟨gs, 1, none⟩ = some (.slice oa s1.length oc) := hS.ms.kS.cell 1
      have HX := Lib.hid (fun w1 (hb1 : Below wr.heap.size wr w1) => refTake_any g s2 s3 z w1 (by have := HZL.out; omega) HSL.out (hS.below hb1).hr)
      have HDk := Lib.hid (fun w1 (hb1 : Below wr.heap.size wr w1) => hS.below hb1)
      have HBI := Lib.hid (show tkStep z (s1, s2, s3) = (s1 ++ [(tkI z s2 s3).1], (tkI z s2 s3).2.1, (tkI z s2 s3).2.2) from rfl)
      generalize hbI : tkI z s2 s3 = bi at *
      obtain ⟨Pc, P2, P3⟩ := bi
      clear hbI hS hlt hk
      go_wp2
      go_region_law (first
        | (refine step_append_textR rfl (.tmp 43) (.tmp 47) rfl w.heap.size _ s1 rfl hD3.ms.hP w2'.heap.size 1 rfl (.slice xa' xn' xc') hc2 Pc hx2 HLK.out (Nat.le_trans hgr2 (Nat.le_trans hsz2 hbA.size)) ?_; intro l5 w5 hO5 hb5 hg5; obtain ⟨a5, c5, rfl⟩ := hO5.val; obtain ⟨f5, q5, hD5⟩ := hD3.app1 hO5 hg5 hb5)
        | (go_simp; go_at_call 50; refine (HX.out _ (by first | exact Below.refl _ _ | exact (Below.refl _ _).drew)).mono ?_; rintro e w2' ⟨x1, rfl, hx1, hR⟩; obtain ⟨xa', xn', xc', rfl⟩ := hx1.val; have hsz2 : wr.heap.size ≤ w2'.heap.size := hR.2.size; have hD2 := MrrS.read (HDk.out _ (by first | exact Below.refl _ _ | exact (Below.refl _ _).drew)) hR; have q7 : w2'.cell? ⟨gs, 1, none⟩ = some (.slice oa s1.length oc) := hD2.ms.kS.cell 1; have hbA : Below w2'.heap.size w2' (w2'.alloc (.cells #[.slice xa' xn' xc'] 22)) := (Below.refl _ _).alloc (Nat.le_refl _) _; have hD3 := hD2.below hbA; have q8 : (w2'.alloc (.cells #[.slice xa' xn' xc'] 22)).cell? ⟨gs, 1, none⟩ = some (.slice oa s1.length oc) := hD3.ms.kS.cell 1; have hx2 := hx1.below hbA (Nat.le_refl _); have hc2 := (Blk.new w2' 22 #[.slice xa' xn' xc']).cell 0))
      all_goals go_wp2
      all_goals go_roundw
      all_goals first
        | exact ⟨k + 1, _, _, by rw [HKW.out], HLT.out, by rw [HST.out, HBI.out]; have hD6 := hD5; rw [List.length_append, List.length_singleton] at hD6; exact hD6⟩
        | (rw [HKW.out]; have := HLT.out; simp [intOf]; omega)
    · obtain rfl : k = n := Nat.le_antisymm hk (Nat.le_of_not_lt hlt)
      have hkI : ¬ (k : Int) < (k : Int) := Int.lt_irrefl _
      have hS := hS.rebase
      generalize wr = wz at *
      obtain ⟨vpa, vpc, rfl⟩ := hS.ms.hP.val
      have HNL := Lib.hid (Nat.le_trans (tkN_suf z k ([], rest, err)) (Nat.le_trans HLR.out HLL.out))
      generalize tkN z k ([], rest, err) = S1 at *
      obtain ⟨PL, r1, e1⟩ := S1
      simp only at hS HT1 HT2 HT3 HNL
      have HM0 := Lib.hid (show MrrS w wz g gs idx (.slice vpa PL.length vpc) (.slice none 0 0) wz.heap.size PL (tkN z 0 ([], r1, e1)).1 (tkN z 0 ([], r1, e1)).2.1 (tkN z 0 ([], r1, e1)).2.2 from hS)
      have HBQ := Lib.hid (show w.heap.size ≤ wz.heap.size from hS.ms.bel.size)
      generalize wz.heap.size = Bz at *
      clear hS hlt hk
      go_wp2
      go_loopw [52] (fun i wr => ∃ (j : Nat) (vq : Value), i = .int .i64 j ∧ j ≤ H ∧ MrrS w wr g gs idx (.slice vpa PL.length vpc) vq Bz PL (tkN z j ([], r1, e1)).1 (tkN z j ([], r1, e1)).2.1 (tkN z j ([], r1, e1)).2.2) (fun i _ => H - (intOf i).toNat)
      case atStart => exact ⟨0, _, rfl, by omega, HM0.out⟩
      case round =>
        clear HM0
        obtain ⟨j, vq, rfl, hk, hS⟩ := hrel
        by_cases hlt : j < H
        · have hjI : (j : Int) < (H : Int) := by omega
          have HLT := Lib.hid hlt
          have HKW := Lib.hid (next_at (M := H) hlt (by omega))
          have HLK := Lib.hid (show (tkN z j ([], r1, e1)).1.length + 1 ≤ 5000000000000 by rw [tkN_len]; simp only [List.length_nil]; omega)
          have HSL := Lib.hid (show (tkN z j ([], r1, e1)).2.1.length ≤ 140737488351232 from Nat.le_trans (tkN_suf z j ([], r1, e1)) HNL.out)
          have HST := Lib.hid (show tkN z (j + 1) ([], r1, e1) = tkStep z (tkN z j ([], r1, e1)) from rfl)
          generalize tkN z j ([], r1, e1) = st at *
          obtain ⟨s1, s2, s3⟩ := st
          simp only at hS HSL HLK
          have hgr2 : Bz ≤ wr.heap.size := hS.ms.le
          obtain ⟨oa, oc, rfl⟩ := hS.ms.hQ.val
          have q0 : wr.cell? ⟨gs, 2, none⟩ = some (.slice oa s1.length oc) := hS.ms.kS.cell 2
          have HX := Lib.hid (fun w1 (hb1 : Below wr.heap.size wr w1) => refTake_any g s2 s3 z w1 (by have := HZL.out; omega) HSL.out (hS.below hb1).hr)
          have HDk := Lib.hid (fun w1 (hb1 : Below wr.heap.size wr w1) => hS.below hb1)
          have HBI := Lib.hid (show tkStep z (s1, s2, s3) = (s1 ++ [(tkI z s2 s3).1], (tkI z s2 s3).2.1, (tkI z s2 s3).2.2) from rfl)
          generalize hbI : tkI z s2 s3 = bi at *
          obtain ⟨Pc, P2, P3⟩ := bi
          clear hbI hS hlt hk
          go_wp2
          go_region_law (first
            | (refine step_append_textR rfl (.tmp 55) (.tmp 59) rfl Bz _ s1 rfl hD3.ms.hQ w2'.heap.size 1 rfl (.slice xa' xn' xc') hc2 Pc hx2 HLK.out (Nat.le_trans hgr2 (Nat.le_trans hsz2 hbA.size)) ?_; intro l5 w5 hO5 hb5 hg5; obtain ⟨a5, c5, rfl⟩ := hO5.val; obtain ⟨f5, q5, hD5⟩ := hD3.app2 hO5 hg5 hb5)
            | (go_simp; go_at_call 50; refine (HX.out _ (by first | exact Below.refl _ _ | exact (Below.refl _ _).drew)).mono ?_; rintro e w2' ⟨x1, rfl, hx1, hR⟩; obtain ⟨xa', xn', xc', rfl⟩ := hx1.val; have hsz2 : wr.heap.size ≤ w2'.heap.size := hR.2.size; have hD2 := MrrS.read (HDk.out _ (by first | exact Below.refl _ _ | exact (Below.refl _ _).drew)) hR; have q7 : w2'.cell? ⟨gs, 2, none⟩ = some (.slice oa s1.length oc) := hD2.ms.kS.cell 2; have hbA : Below w2'.heap.size w2' (w2'.alloc (.cells #[.slice xa' xn' xc'] 22)) := (Below.refl _ _).alloc (Nat.le_refl _) _; have hD3 := hD2.below hbA; have q8 : (w2'.alloc (.cells #[.slice xa' xn' xc'] 22)).cell? ⟨gs, 2, none⟩ = some (.slice oa s1.length oc) := hD3.ms.kS.cell 2; have hx2 := hx1.below hbA (Nat.le_refl _); have hc2 := (Blk.new w2' 22 #[.slice xa' xn' xc']).cell 0))
          all_goals go_wp2
          all_goals go_roundw
          all_goals first
            | exact ⟨j + 1, _, by first | rw [HKW.out] | go_num, HLT.out, by rw [HST.out, HBI.out]; have hD6 := hD5; rw [List.length_append, List.length_singleton] at hD6; exact hD6⟩
            | (rw [HKW.out]; have := HLT.out; simp [intOf]; omega)
            | (have := HLT.out; simp [intOf]; omega)
        · obtain rfl : j = H := Nat.le_antisymm hk (Nat.le_of_not_lt hlt)
          have hjI : ¬ (j : Int) < (j : Int) := Int.lt_irrefl _
          generalize wr = wy at *
          obtain ⟨vqa, vqc, rfl⟩ := hS.ms.hQ.val
          generalize tkN z j ([], r1, e1) = S2 at *
          obtain ⟨QL, r2, e2⟩ := S2
          simp only at hS HT1 HT2 HT3
          have HCE := Lib.hid (show CC = e2 from by
            rw [HC1.out]
            by_cases he : err = 0
            · rw [if_neg (by simp [he])]
              by_cases hsh : rest.length < z * (k + j)
              · rw [if_pos hsh]; exact (HT2.out he (by omega)).symm
              · rw [if_neg hsh]
                have := (HT3.out he (by omega)).2
                simp only [Prod.mk.injEq] at this
                exact this.2.2.symm
            · rw [if_pos he]; exact (HT1.out he).symm)
          obtain ⟨rva, rvc, hrk, hrs⟩ := hS.hr.val
          have HRK := Lib.hid hrk
          have HRS := Lib.hid hrs
          have HS := Lib.hid hS
          obtain ⟨z0, z1, z2⟩ := rec3 hS.ms.kZ
          have f0 := hS.ms.kZ.frozen 0
          have f1 := hS.ms.kZ.frozen 1
          have f2 := hS.ms.kZ.frozen 2
          have k0 : wy.cell? ⟨g, 0, none⟩ = some (.slice rva r2.length rvc) := hrk.cell 0
          have k1 : wy.cell? ⟨g, 1, none⟩ = some (.int .i64 e2) := hrk.cell 1
          have hne1 : ¬ gs = w.heap.size := by have := HS.out.ms.zs; omega
          have hne2 : ¬ w.heap.size = gs := by have := HS.out.ms.zs; omega
          have hne3 : ¬ g = w.heap.size := by have := HS.out.h2; omega
          have hne4 : ¬ w.heap.size = g := by have := HS.out.h2; omega
          clear hrk hrs hlt hk
          by_cases he : e2 = 0
          rotate_left
          · have he' : (e2 != 0) = true := by simp [he]
            have HNO := Lib.hid (show ¬ CC = 0 from fun h => he (by rw [← HCE.out]; exact h))
            clear he hS
            have hG := Lib.hid k1
            have hG2 := Lib.hid ((((HRK.out.far (p := ⟨w.heap.size, 0, none⟩) hne3 (.int .i64 0)).far (p := ⟨w.heap.size, 1, none⟩) hne3 (.slice none 0 0)).far (p := ⟨w.heap.size, 2, none⟩) hne3 (.slice none 0 0)).cell 1)
            go_upto_region 14 with (fail)
            go_region_held3 (fun w' => w'.cell? ⟨g, 1, none⟩ = some (.int .i64 e2)) (first | exact hG.out | exact hG2.out) (first | fail)
            have hbz := (set3_below HS.out.ms.bel (Nat.le_refl _) HS.out.ms.bel.size (.int .i64 0) (.slice none 0 0) (.slice none 0 0)).drew
            have HCE2 := Lib.hid (HCE.out.symm)
            clear hG hG2 HRK HRS HS
            go_wp2
            exact bodyPost_ret (by rw [results_cell_tmp2 rfl]; go_simp; exact rfl) rfl ⟨_, _, by rw [HCE2.out], HPO.out _ _ _ ⟨fun h => absurd h HNO.out, fun _ => ⟨rfl, rfl⟩, hbz⟩⟩
          subst he
          have he' : ((0 : Int) != 0) = false := rfl
          have HOKc := Lib.hid HCE.out
          have herr : err = 0 := by
            rcases Int.decEq err 0 with h | h
            · exact absurd (HT1.out h) (fun h2 => h h2.symm)
            · exact h
          have hlen : z * (k + j) ≤ rest.length := by
            rcases Nat.lt_or_ge rest.length (z * (k + j)) with h | h
            · exact absurd (HT2.out herr (by omega)) (by decide)
            · exact h
          obtain ⟨hPL, hQL⟩ := HT3.out herr hlen
          simp only [Prod.mk.injEq] at hQL
          obtain ⟨hQ1, hQ2, -⟩ := hQL
          obtain ⟨d0, d1, d2⟩ := rec3 hS.ms.kS
          generalize PL.length = lenP at *
          generalize QL.length = lenQ at *
          generalize hr2 : r2.length = lenR at *
          have HFS := Lib.hid hS
          rw [hPL, hQ1] at HFS
          have HRS2 := Lib.hid HRS.out
          rw [hQ2] at HRS2
          clear hS hPL hQ1 hQ2 herr hlen
          have hG := Lib.hid (And.intro d0 (And.intro d1 (And.intro d2 k0)))
          have hkS2 := ((HS.out.ms.kS.far (p := ⟨w.heap.size, 0, none⟩) hne1 (.int .i64 idx)).far (p := ⟨w.heap.size, 1, none⟩) hne1 (.slice vpa lenP vpc)).far (p := ⟨w.heap.size, 2, none⟩) hne1 (.slice vqa lenQ vqc)
          have hkR2 := ((HRK.out.far (p := ⟨w.heap.size, 0, none⟩) hne3 (.int .i64 idx)).far (p := ⟨w.heap.size, 1, none⟩) hne3 (.slice vpa lenP vpc)).far (p := ⟨w.heap.size, 2, none⟩) hne3 (.slice vqa lenQ vqc)
          obtain ⟨m0, m1, m2⟩ := rec3 hkS2
          have hG2 := Lib.hid (And.intro m0 (And.intro m1 (And.intro m2 (hkR2.cell 0))))
          clear hkS2 hkR2 m0 m1 m2 hr2
          go_upto_region 15 with (fail)
          go_region_held3 (fun w' => w'.cell? ⟨gs, 0, none⟩ = some (.int .i64 idx) ∧ w'.cell? ⟨gs, 1, none⟩ = some (.slice vpa lenP vpc) ∧ w'.cell? ⟨gs, 2, none⟩ = some (.slice vqa lenQ vqc) ∧ w'.cell? ⟨g, 0, none⟩ = some (.slice rva lenR rvc)) (first | exact hG.out | exact hG2.out) (first | fail)
          have hst := HFS.out.ms.stored (Below.refl _ _) HRS2.out (.int .i64 idx) (.slice vpa lenP vpc) (.slice vqa lenQ vqc)
          have HF1 := Lib.hid (hst.1.1.below ((Below.refl _ _).drew) (Nat.le_refl _))
          have HF2 := Lib.hid (hst.1.2.below ((Below.refl _ _).drew) (Nat.le_refl _))
          have hbz := hst.2.drew
          clear hst hG hG2
          go_wp2
          exact bodyPost_ret (by rw [results_cell_tmp2 rfl]; go_simp; exact rfl) rfl ⟨_, _, by rw [HOKc.out], HPO.out _ _ _ ⟨fun _ => ⟨HF1.out, HF2.out⟩, fun h => absurd HOKc.out h, hbz⟩⟩

end Go.Proofs.YtjhannlioddkkaaGreatDoor

namespace Go.Proofs.YtjhannlioddkkaaGreatDoor
open Go.RowKit
set_option linter.unusedVariables false

def rdecC (size : Int) (bs : List Int) : Int := if refOk size bs then 0 else 5
def RDecRes (w w' : World) (size : Int) (bs : List Int) (x : Value) : Prop :=
  (refOk size bs → RecV w' x (d1 bs).1 (d2 bs).1 (d3 32 bs).1 (d4 32 bs).1 (d5 32 bs).1 (d6 32 bs).1) ∧ (¬ refOk size bs → x = .agg #[.int .i64 0, .int .i64 0, .slice none 0 0, .int .i64 0, .slice none 0 0, .slice none 0 0]) ∧ Below w.heap.size w w'
theorem refOk_iff (size : Int) (bs : List Int) : refOk size bs ↔ (endI (d6 32 bs).2.2 (d6 32 bs).2.1 = 0 ∧ canI size (d1 bs).1 (d2 bs).1 (d3 32 bs).1 (d4 32 bs).1 (d5 32 bs).1 (d6 32 bs).1) := by
  unfold refOk endI
  constructor
  · rintro ⟨h1, h2, h3⟩
    rw [if_pos h1, if_pos h2]
    exact ⟨rfl, h3⟩
  · rintro ⟨h1, h3⟩
    by_cases he : (d6 32 bs).2.2 = 0
    · rw [if_pos he] at h1
      by_cases hr : (d6 32 bs).2.1 = []
      · exact ⟨he, hr, h3⟩
      · rw [if_neg hr] at h1; cases h1
    · rw [if_neg he] at h1; exact absurd h1 he

set_option maxRecDepth 100000 in
set_option maxHeartbeats 4000000 in
theorem rdec_any (size : Int) (v : Value) (bs : List Int) (w : World) (hz0 : -9223372036854775808 ≤ size) (hz1 : size ≤ 9223372036854775807) (hl : bs.length ≤ 140737488351232) (hB : IsB bs) (hs : Sl w v (bs.map (Value.int .u8))) :
    Calls Tryz.prog 30 #[.int .i64 size, v] w fun e w' => ∃ x, e = .returned (.tuple #[x, .int .i64 (rdecC size bs)]) ∧ RDecRes w w' size bs x := by
  obtain ⟨a, cap, rfl, hc, hm⟩ := hs.shape
  rw [List.length_map] at *
  have hb1 : Below w.heap.size w (w.alloc (.cells #[.int .i64 0, .int .i64 0, .slice none 0 0, .int .i64 0, .slice none 0 0, .slice none 0 0] 25)) := (Below.refl _ _).alloc (Nat.le_refl _) _
  have kZ := Blk.new w 25 #[.int .i64 0, .int .i64 0, .slice none 0 0, .int .i64 0, .slice none 0 0, .slice none 0 0]
  have hs1 := hs.below hb1 (Nat.le_refl _)
  have hsz1 : (w.alloc (.cells #[.int .i64 0, .int .i64 0, .slice none 0 0, .int .i64 0, .slice none 0 0, .slice none 0 0] 25)).heap.size = w.heap.size + 1 := by simp
  have HLL := Lib.hid hl
  have HB := Lib.hid hB
  obtain ⟨l1, l2, l3, l4, l5, l6⟩ := d_left 32 bs
  have HL1 := Lib.hid l1
  have HL2 := Lib.hid l2
  have HL3 := Lib.hid l3
  have HL4 := Lib.hid l4
  have HL5 := Lib.hid l5
  have HL6 := Lib.hid l6
  clear hs hl hB l1 l2 l3 l4 l5 l6
  go_enter Tryz.func30, Tryz.ntmps30
  generalize hw1 : (w.alloc (.cells #[.int .i64 0, .int .i64 0, .slice none 0 0, .int .i64 0, .slice none 0 0, .slice none 0 0] 25)) = w1 at *
  have HSZ := Lib.hid hsz1
  have HW1 := Lib.hid hw1
  clear hsz1
  have hbE : Below w1.heap.size w1 (w1.alloc (.cells #[] 5)) := (Below.refl _ _).alloc (Nat.le_refl _) _
  have hown0 : (w1.alloc (.cells #[] 5)).ownsRow w1.heap.size 5 1 (.slice (some ⟨w1.heap.size, 0, none⟩) 0 0) 0 [] :=
    World.ownsRow_lit (base := w1.heap.size) (e := 5) (size := 1) w1 #[] 0 (Nat.le_refl _) (by simp [maxLen]) (by simp)
  have hsE := hs1.below hbE (Nat.le_refl _)
  obtain ⟨i0, hi, hz0', hz1', hz2'⟩ := info_parts info8c
  go_wp2_with (at_builtin; refine wpList_append_sl rfl _ _ 22 rfl w1.heap.size 5 i0 (.int .u8 0) 1 Tryz.underlying22 hi hz0' hz1' hz2' rfl _ 0 [] rfl hown0 (.slice a bs.length cap) (bs.map (Value.int .u8)) rfl hsE (one8 _) (by have := HLL.out; rw [List.length_map]; unfold maxLen; omega) (by have := HLL.out; rw [List.length_map]; omega) (by simp) ?_)
  intro xv w2 hown2 hg2
  have hb2 := below_grown hbE hown0 (Nat.le_refl _) (by simp) hg2
  have hxv : Sl w2 xv (bs.map (Value.int .u8)) := by simpa using Sl.of_owns hown2
  obtain ⟨xa, xn, xc, rfl⟩ := hxv.val
  have hbr := hb1.trans (hb2.mono hb1.size)
  have kZ := kZ.belowS hb2
  have hgP : Hid (w.heap.size < w2.heap.size) := by have := hb2.size; have := HSZ.out; show _ < _; omega
  have hbR : Below w2.heap.size w2 (w2.alloc (.cells #[.slice xa xn xc, .int .i64 0] 58)) := (Below.refl _ _).alloc (Nat.le_refl _) _
  have hr3 : RRd (w2.alloc (.cells #[.slice xa xn xc, .int .i64 0] 58)) w2.heap.size bs 0 := ⟨_, Blk.new w2 _ _, hxv.below hbR (Nat.le_refl _)⟩
  have kZ := kZ.belowS hbR
  have hbr := hbr.trans (hbR.mono hbr.size)
  have hgl3 : w2.heap.size < (w2.alloc (.cells #[.slice xa xn xc, .int .i64 0] 58)).heap.size := by simp
  clear hown2 hg2 hbE hown0 hsE hb1 hb2 hs1 hxv hbR hw1
  have HU := Lib.hid (refRuint_any w2.heap.size bs 0 255 _ HB.out HLL.out hr3)
  have HU : Hid (Calls Tryz.prog 49 #[.pointer (some ⟨w2.heap.size, 0, none⟩), .int .i64 255] (w2.alloc (.cells #[.slice xa xn xc, .int .i64 0] 58)) fun e w' => e = .returned (.int .i64 (d1 bs).1) ∧ RRdAt (w2.alloc (.cells #[.slice xa xn xc, .int .i64 0] 58)) w' w2.heap.size (d1 bs).2.1 (d1 bs).2.2) := HU
  clear hr3
  go_wp2_with fail
  refine HU.out.mono ?_
  generalize (w2.alloc (.cells #[.slice xa xn xc, .int .i64 0] 58)) = w3 at *
  generalize w2.heap.size = g at *
  rintro e w4 ⟨rfl, hr4, hg4⟩
  have kZ := kZ.grown hg4 (by intro e; cases e; exact absurd hgP.out (Nat.lt_irrefl _))
  have hbr := below_of_only hbr hg4 (Nat.le_of_lt hgP.out) hbr.size
  have hgl4 : g < w4.heap.size := Nat.lt_of_lt_of_le hgl3 hg4.size
  have hbG : Below w4.heap.size w4 (w4.alloc (.cells #[.int .i64 (d1 bs).1, .int .i64 0, .slice none 0 0, .int .i64 0, .slice none 0 0, .slice none 0 0] 25)) := (Below.refl _ _).alloc (Nat.le_refl _) _
  have HD0 := Lib.hid (show RDecS w (w4.alloc (.cells #[.int .i64 (d1 bs).1, .int .i64 0, .slice none 0 0, .int .i64 0, .slice none 0 0, .slice none 0 0] 25)) g w4.heap.size (d1 bs).1 0 0 (.slice none 0 0) (.slice none 0 0) (.slice none 0 0) [] [] [] (d1 bs).2.1 (d1 bs).2.2 from
    ⟨Blk.new w4 _ _, OSls.nil _ _, hr4.belowR hbG, Sl.nil _, Sl.nil _, kZ.belowS hbG, below_trans2 hbr hbG, by omega, hgP.out, kZ.lt⟩)
  have HU := Lib.hid (refRuint_any g (d1 bs).2.1 (d1 bs).2.2 1125899906842624 _ (suf_isB HL1.out HB.out) (Nat.le_trans (suf_len HL1.out) HLL.out) HD0.out.hr)
  have HU : Hid (Calls Tryz.prog 49 #[.pointer (some ⟨g, 0, none⟩), .int .i64 1125899906842624] (w4.alloc (.cells #[.int .i64 (d1 bs).1, .int .i64 0, .slice none 0 0, .int .i64 0, .slice none 0 0, .slice none 0 0] 25)) fun e w' => e = .returned (.int .i64 (d2 bs).1) ∧ RRdAt (w4.alloc (.cells #[.int .i64 (d1 bs).1, .int .i64 0, .slice none 0 0, .int .i64 0, .slice none 0 0, .slice none 0 0] 25)) w' g (d2 bs).2.1 (d2 bs).2.2) := HU
  clear hr4 hg4 kZ hbr hbG hgl3 hgl4
  go_wp2_with fail
  refine HU.out.mono ?_
  rintro e w6 ⟨rfl, hr6⟩
  have HDa := Lib.hid (HD0.out.read hr6)
  clear HU HD0 hr6
  have q1 : w6.cell? ⟨w4.heap.size, 1, none⟩ = some (.int .i64 0) := HDa.out.kR.cell 1
  have f1 := HDa.out.kR.frozen 1
  have HDb := Lib.hid (HDa.out.set1 (d2 bs).1)
  have HU := Lib.hid (refRbytes_any g (d2 bs).2.1 (d2 bs).2.2 32 _ (suf_isB HL2.out HB.out) (Nat.le_trans (suf_len HL2.out) HLL.out) HDb.out.hr)
  go_wp2_with fail
  generalize (w6.setCell ⟨w4.heap.size, 1, none⟩ (.int .i64 (d2 bs).1)) = w7 at *
  refine HU.out.mono ?_
  rintro e w8 ⟨x, rfl, hx, hr8⟩
  have hx : Sl w8 x ((d3 32 bs).1.map (Value.int .u8)) := hx
  have hr8 : RRdAt w7 w8 g (d3 32 bs).2.1 (d3 32 bs).2.2 := hr8
  obtain ⟨ta, tn, tc, rfl⟩ := hx.val
  have HDc := Lib.hid (HDb.out.read hr8)
  clear HU HDa HDb hr8 q1 f1
  have q1 : w8.cell? ⟨w4.heap.size, 2, none⟩ = some (.slice none 0 0) := HDc.out.kR.cell 2
  have f1 := HDc.out.kR.frozen 2
  have HDd := Lib.hid (HDc.out.set2 hx)
  have HU := Lib.hid (refRuint_any g (d3 32 bs).2.1 (d3 32 bs).2.2 32 _ (suf_isB HL3.out HB.out) (Nat.le_trans (suf_len HL3.out) HLL.out) HDd.out.hr)
  clear hx
  go_wp2_with fail
  generalize (w8.setCell ⟨w4.heap.size, 2, none⟩ (.slice ta tn tc)) = w9 at *
  refine HU.out.mono ?_
  rintro e wa ⟨rfl, hra⟩
  have hra : RRdAt w9 wa g (d4 32 bs).2.1 (d4 32 bs).2.2 := hra
  have hE4 : (uI 32 (d3 32 bs).2.1 (d3 32 bs).2.2).1 = (d4 32 bs).1 := rfl
  rw [hE4]
  have HDe := Lib.hid (HDd.out.read hra)
  clear HU HDc HDd hra q1 f1 hE4
  have q1 : wa.cell? ⟨w4.heap.size, 3, none⟩ = some (.int .i64 0) := HDe.out.kR.cell 3
  have f1 := HDe.out.kR.frozen 3
  have HDf := Lib.hid (HDe.out.set3 (d4 32 bs).1)
  have HU := Lib.hid (refRbytes_any g (d4 32 bs).2.1 (d4 32 bs).2.2 32 _ (suf_isB HL4.out HB.out) (Nat.le_trans (suf_len HL4.out) HLL.out) HDf.out.hr)
  go_wp2_with fail
  generalize (wa.setCell ⟨w4.heap.size, 3, none⟩ (.int .i64 (d4 32 bs).1)) = wb at *
  refine HU.out.mono ?_
  rintro e wc ⟨x, rfl, hx, hrc⟩
  have hx : Sl wc x ((d5 32 bs).1.map (Value.int .u8)) := hx
  have hrc : RRdAt wb wc g (d5 32 bs).2.1 (d5 32 bs).2.2 := hrc
  obtain ⟨la, lcn, lc, rfl⟩ := hx.val
  have HDg := Lib.hid (HDf.out.read hrc)
  clear HU HDe HDf hrc q1 f1
  have q1 : wc.cell? ⟨w4.heap.size, 4, none⟩ = some (.slice none 0 0) := HDg.out.kR.cell 4
  have f1 := HDg.out.kR.frozen 4
  have HDD := Lib.hid (HDg.out.set4 hx)
  have c0 : (wc.setCell ⟨w4.heap.size, 4, none⟩ (.slice la lcn lc)).cell? ⟨w4.heap.size, 0, none⟩ = some (.int .i64 (d1 bs).1) := HDD.out.kR.cell 0
  have HV := Lib.hid (uI_val 255 bs 0 HB.out)
  have hv0 : 0 ≤ (d1 bs).1 := HV.out.1
  have hv1 : (d1 bs).1 ≤ 255 := by
    by_cases he : (uI 255 bs 0).2.2 = 0
    · exact HV.out.2.2.1 he
    · have := HV.out.2.2.2 he; show (uI 255 bs 0).1 ≤ 255; omega
  have HK := Lib.hid (fun w' => rlinks_any (d1 bs).1 hv0 hv1 w')
  have HN := Lib.hid (links_le (d1 bs).1)
  have HD6 := Lib.hid (show d6 32 bs = lkN 32 (linksI (d1 bs).1) ([], (d5 32 bs).2.1, (d5 32 bs).2.2) from rfl)
  have HL6 := Lib.hid HL6.out
  have hN9 : linksI (d1 bs).1 ≤ 9 := HN.out
  clear hv0 hv1 HV hx HDg
  generalize hLN : linksI (d1 bs).1 = N at *
  generalize hgr : w4.heap.size = gr at *
  clear hLN hgr
  go_wp2_with fail
  refine (HK.out _).mono ?_
  generalize (wc.setCell ⟨gr, 4, none⟩ (.slice la lcn lc)) = wd at *
  rintro e we ⟨rfl, rfl⟩
  clear q1 f1
  go_wp2
  go_loopw [31] (fun i wr => ∃ (k : Nat) (ov : Value), i = .int .i64 k ∧ k ≤ N ∧ RDecS w wr g gr (d1 bs).1 (d2 bs).1 (d4 32 bs).1 (.slice ta tn tc) (.slice la lcn lc) ov (d3 32 bs).1 (d5 32 bs).1 (lkN 32 k ([], (d5 32 bs).2.1, (d5 32 bs).2.2)).1 (lkN 32 k ([], (d5 32 bs).2.1, (d5 32 bs).2.2)).2.1 (lkN 32 k ([], (d5 32 bs).2.1, (d5 32 bs).2.2)).2.2) (fun i _ => N - (intOf i).toNat)
  case atStart => exact ⟨0, _, rfl, by omega, HDD.out⟩
  case round =>
    obtain ⟨k, ov, rfl, hk, hD⟩ := hrel
    clear HDD HK c0
    by_cases hlt : k < N
    · have hkI : (k : Int) < (N : Int) := by omega
      have HLK := Lib.hid (lkN_len 32 k ([], (d5 32 bs).2.1, (d5 32 bs).2.2))
      have HSB := Lib.hid (suf_isB (HL6.out k) HB.out)
      have HSL := Lib.hid (Nat.le_trans (suf_len (HL6.out k)) HLL.out)
      have HST := Lib.hid (show lkN 32 (k + 1) ([], (d5 32 bs).2.1, (d5 32 bs).2.2) = lkStep 32 (lkN 32 k ([], (d5 32 bs).2.1, (d5 32 bs).2.2)) from rfl)
      generalize lkN 32 k ([], (d5 32 bs).2.1, (d5 32 bs).2.2) = st at *
      obtain ⟨s1, s2, s3⟩ := st
      simp only at hD HSB HSL HLK
      have HLK := Lib.hid (show s1.length + 1 ≤ 5000000000000 by have := HLK.out; simp only [List.length_nil] at this; omega)
      have hgr2 : w.heap.size ≤ wr.heap.size := hD.hb.size
      obtain ⟨oa, oc, rfl⟩ := hD.hO.val
      have q0 : wr.cell? ⟨gr, 5, none⟩ = some (.slice oa s1.length oc) := hD.kR.cell 5
      have HX := Lib.hid (fun w1 (hb1 : Below wr.heap.size wr w1) => refRbytes_any g s2 s3 32 w1 HSB.out HSL.out (hD.below hb1).hr)
      have HDk := Lib.hid (fun w1 (hb1 : Below wr.heap.size wr w1) => hD.below hb1)
      have HBI := Lib.hid (show lkStep 32 (s1, s2, s3) = (s1 ++ [(bI 32 s2 s3).1], (bI 32 s2 s3).2.1, (bI 32 s2 s3).2.2) from rfl)
      generalize hbI : bI 32 s2 s3 = bi at *
      obtain ⟨P, P2, P3⟩ := bi
      clear hbI hD
      go_wp2
      go_region_law (first
        | (refine step_append_textR rfl (.tmp 34) (.tmp 37) rfl w.heap.size _ s1 rfl hD3.hO w2'.heap.size 1 rfl (.slice xa' xn' xc') hc2 P hx2 HLK.out (Nat.le_trans hgr2 (Nat.le_trans hsz2 hbA.size)) ?_; intro l5 w5 hO5 hb5 hg5; obtain ⟨a5, c5, rfl⟩ := hO5.val; obtain ⟨q5, f5, hD5⟩ := hD3.app hO5 hg5)
        | (go_simp; go_at_call 29; refine (HX.out _ (by first | exact Below.refl _ _ | exact (Below.refl _ _).drew)).mono ?_; rintro e w2' ⟨x1, rfl, hx1, hR⟩; obtain ⟨xa', xn', xc', rfl⟩ := hx1.val; have hsz2 : wr.heap.size ≤ w2'.heap.size := hR.2.size; have hD2 := RDecS.read (HDk.out _ (by first | exact Below.refl _ _ | exact (Below.refl _ _).drew)) hR; have q7 : w2'.cell? ⟨gr, 5, none⟩ = some (.slice oa s1.length oc) := hD2.kR.cell 5; have hbA : Below w2'.heap.size w2' (w2'.alloc (.cells #[.slice xa' xn' xc'] 22)) := (Below.refl _ _).alloc (Nat.le_refl _) _; have hD3 := hD2.below hbA; have q8 : (w2'.alloc (.cells #[.slice xa' xn' xc'] 22)).cell? ⟨gr, 5, none⟩ = some (.slice oa s1.length oc) := hD3.kR.cell 5; have hx2 := hx1.below hbA (Nat.le_refl _); have hc2 := (Blk.new w2' 22 #[.slice xa' xn' xc']).cell 0))
      all_goals go_wp2
      all_goals go_roundw
      all_goals first
        | exact ⟨k + 1, _, by go_num, by omega, by rw [HST.out, HBI.out]; have hD6 := hD5; rw [List.length_append, List.length_singleton] at hD6; exact hD6⟩
        | (simp [intOf]; omega)
    · obtain rfl : k = N := by omega
      have hkI : ¬ (k : Int) < (k : Int) := by omega
      rw [← HD6.out] at hD
      obtain ⟨oa, oc, rfl⟩ := hD.hO.val
      have HRV := Lib.hid (show RecV wr (.agg #[.int .i64 (d1 bs).1, .int .i64 (d2 bs).1, .slice ta tn tc, .int .i64 (d4 32 bs).1, .slice la lcn lc, .slice oa (d6 32 bs).1.length oc]) (d1 bs).1 (d2 bs).1 (d3 32 bs).1 (d4 32 bs).1 (d5 32 bs).1 (d6 32 bs).1 from ⟨_, _, _, rfl, hD.ht, hD.hl, hD.hO.sls⟩)
      have HCE := Lib.hid (rrend_any g _ _ wr hD.hr)
      have HCN := Lib.hid (rcan_any size _ _ _ _ _ _ _ wr hz0 hz1 HRV.out)
      obtain ⟨c0, c1, c2, c3, c4, c5⟩ := rec6 hD.kR
      have HD := Lib.hid hD
      have HDO := Lib.hid (refOk_iff size bs)
      clear hD HD6 HRV
      generalize endI (d6 32 bs).2.2 (d6 32 bs).2.1 = eE at *
      by_cases h1 : eE = 0
      · have h1' : (eE != 0) = false := by simpa using h1
        by_cases h2 : canI size (d1 bs).1 (d2 bs).1 (d3 32 bs).1 (d4 32 bs).1 (d5 32 bs).1 (d6 32 bs).1
        · rw [decide_eq_true h2] at HCN
          have HOK := Lib.hid (HDO.out.2 ⟨h1, h2⟩)
          clear h1 h2 HDO
          go_wp2_with fail
          refine HCE.out.mono ?_
          rintro e w10 ⟨rfl, rfl⟩
          go_wp2_with fail
          refine HCN.out.mono ?_
          rintro e w11 ⟨rfl, hb11⟩
          have HD11 := Lib.hid (HD.out.below hb11)
          obtain ⟨c0, c1, c2, c3, c4, c5⟩ := rec6 HD11.out.kR
          obtain ⟨z0, z1, z2, z3, z4, z5⟩ := rec6 HD11.out.kZ
          obtain ⟨f0, f1, f2, f3, f4, f5⟩ := rec6f HD11.out.kZ
          clear hb11
          go_wp2
          exact bodyPost_ret (by rw [results_cell_tmp rfl]; go_simp; exact rfl) rfl ⟨_, by rw [show rdecC size bs = 0 from by unfold rdecC; rw [if_pos HOK.out]], fun _ => (HD11.out.stored (sixSet _ _ _ _ _ _)).1, fun h => absurd HOK.out h, (HD11.out.stored (sixSet _ _ _ _ _ _)).2⟩
        · rw [decide_eq_false h2] at HCN
          have HNO := Lib.hid (fun h => h2 (HDO.out.1 h).2)
          clear h1 h2 HDO
          go_wp2_with fail
          refine HCE.out.mono ?_
          rintro e w10 ⟨rfl, rfl⟩
          go_wp2_with fail
          refine HCN.out.mono ?_
          rintro e w11 ⟨rfl, hb11⟩
          have HD11 := Lib.hid (HD.out.below hb11)
          obtain ⟨z0, z1, z2, z3, z4, z5⟩ := rec6 HD11.out.kZ
          obtain ⟨f0, f1, f2, f3, f4, f5⟩ := rec6f HD11.out.kZ
          clear hb11
          go_wp2
          exact bodyPost_ret (by rw [results_cell_tmp rfl]; go_simp; exact rfl) rfl ⟨_, by rw [show rdecC size bs = 5 from by unfold rdecC; rw [if_neg HNO.out]], fun h => absurd h HNO.out, fun _ => rfl, (HD11.out.stored (sixSet _ _ _ _ _ _)).2⟩
      · have h1' : (eE != 0) = true := by simpa using h1
        have HNO := Lib.hid (fun h => h1 (HDO.out.1 h).1)
        clear h1 HDO
        obtain ⟨z0, z1, z2, z3, z4, z5⟩ := rec6 HD.out.kZ
        obtain ⟨f0, f1, f2, f3, f4, f5⟩ := rec6f HD.out.kZ
        go_wp2_with fail
        refine HCE.out.mono ?_
        rintro e w10 ⟨rfl, rfl⟩
        go_wp2
        exact bodyPost_ret (by rw [results_cell_tmp rfl]; go_simp; exact rfl) rfl ⟨_, by rw [show rdecC size bs = 5 from by unfold rdecC; rw [if_neg HNO.out]], fun h => absurd h HNO.out, fun _ => rfl, (HD.out.stored (sixSet _ _ _ _ _ _)).2⟩

end Go.Proofs.YtjhannlioddkkaaGreatDoor

namespace Go.Proofs.YtjhannlioddkkaaGreatDoor
open Go.RowKit
set_option linter.unusedVariables false

set_option maxRecDepth 100000 in
set_option maxHeartbeats 4000000 in
theorem ropen_any (size height : Int) (v : Value) (bs : List Int) (w : World) (hz0 : -9223372036854775808 ≤ size) (hz1 : size ≤ 9223372036854775807) (hh0 : -9223372036854775808 ≤ height) (hh1 : height ≤ 9223372036854775807) (hl : bs.length ≤ 140737488351232) (hB : IsB bs) (hs : Sl w v (bs.map (Value.int .u8))) :
    Calls Tryz.prog 7 #[.int .i64 size, .int .i64 height, v] w fun e w' => ∃ x, e = .returned (.tuple #[x, .int .i64 (opC size height bs)]) ∧ OpRes w w' size height bs x := by
  obtain ⟨va, vc, rfl, hc, hm⟩ := hs.shape
  rw [List.length_map] at *
  have hb1 : Below w.heap.size w (w.alloc (.cells #[.int .i64 0, .int .i64 0, .slice none 0 0, .int .i64 0, .slice none 0 0, .slice none 0 0, .int .i64 0, .slice none 0 0, .slice none 0 0] 29)) := (Below.refl _ _).alloc (Nat.le_refl _) _
  have kZ := Blk.new w 29 #[.int .i64 0, .int .i64 0, .slice none 0 0, .int .i64 0, .slice none 0 0, .slice none 0 0, .int .i64 0, .slice none 0 0, .slice none 0 0]
  have hs1 := hs.below hb1 (Nat.le_refl _)
  have hsz1 : (w.alloc (.cells #[.int .i64 0, .int .i64 0, .slice none 0 0, .int .i64 0, .slice none 0 0, .slice none 0 0, .int .i64 0, .slice none 0 0, .slice none 0 0] 29)).heap.size = w.heap.size + 1 := by simp
  have HLL := Lib.hid hl
  have HB := Lib.hid hB
  have HSS := Lib.hid hs
  have HOC := Lib.hid (show opC size height bs = if opOk size height bs then 0 else 5 from rfl)
  have HOK : Hid (opOk size height bs ↔ ((opT bs).2.2 = 0 ∧ decOk size (opT bs).1 ∧ mrC size height (opT bs).2.1 = 0 ∧ (mrU height.toNat (opT bs).2.1).2.1.drop (mrNeed size height) = [])) := ⟨fun h => h, fun h => h⟩
  have HNO := Lib.hid (fun (w' : World) (hn : ¬ opOk size height bs) (h : Below w.heap.size w w') => (show OpRes w w' size height bs z9v from ⟨fun h' => absurd h' hn, fun _ => rfl, h⟩))
  have HRES := Lib.hid (fun (w' : World) (x : Value) (hok : opOk size height bs) (hx : SgnV w' x (d1 (opT bs).1).1 (d2 (opT bs).1).1 (d3 size (opT bs).1).1 (d4 size (opT bs).1).1 (d5 size (opT bs).1).1 (d6 size (opT bs).1).1 (mrU height.toNat (opT bs).2.1).1 (mrParts size (mrU height.toNat (opT bs).2.1).2.1) (mrPath size height (mrU height.toNat (opT bs).2.1).2.1)) (h : Below w.heap.size w w') => (show OpRes w w' size height bs x from ⟨fun _ => hx, fun hn => absurd hok hn, h⟩))
  have HBL := Lib.hid (bI_left 4096 bs 0)
  have HTB := Lib.hid (bI_isB 4096 bs 0 hB)
  have HTL := Lib.hid (bI_len 4096 bs 0)
  have HX := Lib.hid (fun (g : Nat) (w1 : World) (h : RRd w1 g bs 0) => refRbytes_any g bs 0 4096 w1 HB.out HLL.out h)
  have hOT : opT bs = bI 4096 bs 0 := rfl
  rw [← hOT] at HBL HTB HTL HX
  clear hs hl hB hOT
  generalize opT bs = U at *
  obtain ⟨T, R, er⟩ := U
  simp only at HOK HRES HBL HTB HTL HX
  generalize opC size height bs = CC at *
  go_enter Tryz.func7, Tryz.ntmps7
  go_upto_region 1 with (fail)
  have HSZ := Lib.hid hsz1
  clear hsz1
  generalize (w.alloc (.cells #[.int .i64 0, .int .i64 0, .slice none 0 0, .int .i64 0, .slice none 0 0, .slice none 0 0, .int .i64 0, .slice none 0 0, .slice none 0 0] 29)) = w1 at *
  have hbE : Below w1.heap.size w1 (w1.alloc (.cells #[] 5)) := (Below.refl _ _).alloc (Nat.le_refl _) _
  have hown0 : (w1.alloc (.cells #[] 5)).ownsRow w1.heap.size 5 1 (.slice (some ⟨w1.heap.size, 0, none⟩) 0 0) 0 [] :=
    World.ownsRow_lit (base := w1.heap.size) (e := 5) (size := 1) w1 #[] 0 (Nat.le_refl _) (by simp [maxLen]) (by simp)
  have hsE := hs1.below hbE (Nat.le_refl _)
  obtain ⟨i0, hi, hz0', hz1', hz2'⟩ := info_parts info8c
  go_wp2_with (at_builtin; refine wpList_append_sl rfl _ _ 22 rfl w1.heap.size 5 i0 (.int .u8 0) 1 Tryz.underlying22 hi hz0' hz1' hz2' rfl _ 0 [] rfl hown0 (.slice va bs.length vc) (bs.map (Value.int .u8)) rfl hsE (one8 _) (by have := HLL.out; rw [List.length_map]; unfold maxLen; omega) (by have := HLL.out; rw [List.length_map]; omega) (by simp) ?_)
  intro xv w2 hown2 hg2
  have hb2 := below_grown hbE hown0 (Nat.le_refl _) (by simp) hg2
  have hxv : Sl w2 xv (bs.map (Value.int .u8)) := by simpa using Sl.of_owns hown2
  obtain ⟨ra', rn', rc', rfl⟩ := hxv.val
  have hbr := hb1.trans (hb2.mono hb1.size)
  have kZ := kZ.belowS hb2
  have hgP : w.heap.size < w2.heap.size := by have := hb2.size; have := HSZ.out; omega
  have hbR : Below w2.heap.size w2 (w2.alloc (.cells #[.slice ra' rn' rc', .int .i64 0] 58)) := (Below.refl _ _).alloc (Nat.le_refl _) _
  have hr2 : RRd (w2.alloc (.cells #[.slice ra' rn' rc', .int .i64 0] 58)) w2.heap.size bs 0 := ⟨_, Blk.new w2 _ _, hxv.below hbR (Nat.le_refl _)⟩
  have kZ := kZ.belowS hbR
  have hbr := hbr.trans (hbR.mono hbr.size)
  clear hown2 hg2 hbE hown0 hsE hb1 hb2 hs1 hxv hbR
  go_upto_region 2 with (fail)
  generalize (w2.alloc (.cells #[.slice ra' rn' rc', .int .i64 0] 58)) = w2' at *
  generalize w2.heap.size = g at *
  generalize w2' = w2 at *
  have HU := Lib.hid (HX.out g w2 hr2)
  go_wp2_with fail
  refine HU.out.mono ?_
  rintro e w3 ⟨x3, rfl, hx3, hr3, hg3⟩
  have kZ := kZ.grown hg3 (by intro e; cases e; omega)
  have hbr := below_of_only hbr hg3 (by omega) hbr.size
  obtain ⟨xa, xn, xc, rfl⟩ := hx3.val
  clear hg3 HU hr2 HX
  obtain ⟨rva, rvc, hrk, hrl⟩ := hr3.val
  have k0 : w3.cell? ⟨g, 0, none⟩ = some (.slice rva R.length rvc) := hrk.cell 0
  have k1 : w3.cell? ⟨g, 1, none⟩ = some (.int .i64 er) := hrk.cell 1
  clear hrk hrl
  by_cases he : er = 0
  rotate_left
  · have he' : (er != 0) = true := by simp [he]
    have HN := Lib.hid (show ¬ opOk size height bs from fun h => he (HOK.out.1 h).1)
    obtain ⟨⟨z0, z1, z2, z3, z4, z5⟩, z6, z7, z8⟩ := rec9 kZ
    obtain ⟨⟨f0, f1, f2, f3, f4⟩, f5, f6, f7, f8⟩ := rec9f kZ
    have HBR := Lib.hid hbr
    clear he hbr
    go_wp2
    exact bodyPost_ret (by rw [results_cell_tmp rfl]; go_simp; exact rfl) rfl ⟨_, by rw [HOC.out, if_neg HN.out]; rfl, HNO.out _ HN.out (below_of_only HBR.out (nineSet _ _ _ _ _ _ _ _ _) (Nat.le_refl _) HBR.out.size)⟩
  subst he
  have he' : ((0 : Int) != 0) = false := rfl
  have HDE := Lib.hid (rdec_any size _ T w3 hz0 hz1 (by have := HTL.out; have := HLL.out; omega) HTB.out hx3)
  have HRO := Lib.hid (And.intro (ok_ref size T) (ref_ok size T HTB.out))
  clear hx3
  go_wp2_with fail
  refine HDE.out.mono ?_
  rintro e w5 ⟨x5, rfl, hd1', hd2', hb5⟩
  have hcc : rdecC size T = decC size T := by
    unfold rdecC decC
    by_cases hk : decOk size T
    · rw [if_pos hk, if_pos (HRO.out.1 hk).1]
    · rw [if_neg hk, if_neg (fun h => hk (HRO.out.2 h))]
  rw [hcc]
  have hd1 : decOk size T → RecV w5 x5 (d1 T).1 (d2 T).1 (d3 size T).1 (d4 size T).1 (d5 size T).1 (d6 size T).1 := fun hk => by
    obtain ⟨h0, h3, h4, h5, h6⟩ := HRO.out.1 hk
    rw [← h3, ← h4, ← h5, ← h6]
    exact hd1' h0
  have hd2 := fun (hk : ¬ decOk size T) => hd2' (fun h => hk (HRO.out.2 h))
  clear hd1' hd2' hcc
  have kZ := kZ.belowS hb5
  have hr5 := hr3.belowR hb5
  have hbr := below_trans2 hbr hb5
  clear hr3 hb5 HDE
  obtain ⟨ve, vi, vt, vo, vl, vk, rfl, hdv⟩ : ∃ ve vi vt vo vl vk, x5 = .agg #[.int .i64 ve, .int .i64 vi, vt, .int .i64 vo, vl, vk] ∧ (isSl vt ∧ isSl vl ∧ isSl vk) := by
    by_cases hok : decOk size T
    · obtain ⟨vt, vl, vk, h1, h2, h3, h4⟩ := hd1 hok
      obtain ⟨a, c, e1, _⟩ := h2.shape
      obtain ⟨a2, c2, e2, _⟩ := h3.shape
      obtain ⟨a3, c3, e3, _⟩ := h4.shape
      exact ⟨_, _, _, _, _, _, h1, ⟨_, _, _, e1⟩, ⟨_, _, _, e2⟩, ⟨_, _, _, e3⟩⟩
    · exact ⟨_, _, _, _, _, _, hd2 hok, ⟨_, _, _, rfl⟩, ⟨_, _, _, rfl⟩, ⟨_, _, _, rfl⟩⟩
  obtain ⟨⟨ta, tn, tc, rfl⟩, ⟨la, ln, lc, rfl⟩, ka, kn, kc, rfl⟩ := hdv
  have hbA : Below w5.heap.size w5 (w5.alloc (.cells #[.int .i64 ve, .int .i64 vi, .slice ta tn tc, .int .i64 vo, .slice la ln lc, .slice ka kn kc] 25)) := (Below.refl _ _).alloc (Nat.le_refl _) _
  have kR := Blk.new w5 25 #[.int .i64 ve, .int .i64 vi, .slice ta tn tc, .int .i64 vo, .slice la ln lc, .slice ka kn kc]
  have kZ := kZ.belowS hbA
  have hr6 := hr5.belowR hbA
  have HD1 := Lib.hid (fun hok => (hd1 hok).below hbA (Nat.le_refl _))
  have hbr := below_trans2 hbr hbA
  have HGR := Lib.hid (show w.heap.size < w5.heap.size by obtain ⟨_, hk, _⟩ := hr5; have := hk.lt; omega)
  clear hd1 hd2 hr5 hbA
  go_upto_region 6 with (fail)
  generalize (w5.alloc (.cells #[.int .i64 ve, .int .i64 vi, .slice ta tn tc, .int .i64 vo, .slice la ln lc, .slice ka kn kc] 25)) = w6 at *
  generalize w5.heap.size = gr at *
  obtain ⟨ra, rc, hrk, hrs⟩ := hr6.val
  have k0 : w6.cell? ⟨g, 0, none⟩ = some (.slice ra R.length rc) := hrk.cell 0
  have k1 : w6.cell? ⟨g, 1, none⟩ = some (.int .i64 0) := hrk.cell 1
  have HRL := Lib.hid (show R.length ≤ 140737488351232 from Nat.le_trans (suf_len HBL.out) HLL.out)
  have HRB := Lib.hid (show IsB R from suf_isB HBL.out HB.out)
  have HMR := Lib.hid (rmread_any size height _ R w6 hz0 hz1 hh0 hh1 HRL.out HRB.out hrs)
  clear hrs hrk
  go_wp2_with fail
  refine HMR.out.mono ?_
  rintro e w8 ⟨x8, y8, rfl, hm1, hm2, hb8⟩
  have kZ := kZ.belowS hb8
  have kR := kR.belowS hb8
  have HD1 := Lib.hid (fun hok => (HD1.out hok).below hb8 (Nat.le_refl _))
  have hbr := below_trans2 hbr hb8
  clear hb8 HMR hr6 k0 k1
  obtain ⟨vx, pv, qv, rfl, hsv⟩ : ∃ vx pv qv, x8 = .agg #[.int .i64 vx, pv, qv] ∧ (isSl pv ∧ isSl qv ∧ isSl y8) := by
    by_cases hok : mrC size height R = 0
    · obtain ⟨⟨vp, vq, h1, h2, h3⟩, h4⟩ := hm1 hok
      obtain ⟨a, c, e1, _⟩ := h2.shape
      obtain ⟨a2, c2, e2, _⟩ := h3.shape
      obtain ⟨a3, c3, e3, _⟩ := h4.shape
      exact ⟨_, _, _, h1, ⟨_, _, _, e1⟩, ⟨_, _, _, e2⟩, ⟨_, _, _, e3⟩⟩
    · exact ⟨_, _, _, (hm2 hok).1, ⟨_, _, _, rfl⟩, ⟨_, _, _, rfl⟩, ⟨_, _, _, (hm2 hok).2⟩⟩
  obtain ⟨⟨pa, pn, pc, rfl⟩, ⟨qa, qn, qc, rfl⟩, ya, yn, yc, rfl⟩ := hsv
  have hbA : Below w8.heap.size w8 (w8.alloc (.cells #[.int .i64 vx, .slice pa pn pc, .slice qa qn qc] 27)) := (Below.refl _ _).alloc (Nat.le_refl _) _
  have kS := Blk.new w8 27 #[.int .i64 vx, .slice pa pn pc, .slice qa qn qc]
  have kZ := kZ.belowS hbA
  have kR := kR.belowS hbA
  have HD1 := Lib.hid (fun hok => (HD1.out hok).below hbA (Nat.le_refl _))
  have HM1 := Lib.hid (fun hok => (hm1 hok).1.below hbA (Nat.le_refl _))
  have HYN := Lib.hid (show mrC size height R = 0 → yn = ((mrU height.toNat R).2.1.drop (mrNeed size height)).length from fun hok => by
    obtain ⟨_, _, e, _⟩ := (hm1 hok).2
    rw [List.length_map] at e
    cases e
    rfl)
  have hbr := below_trans2 hbr hbA
  clear hm1 hm2 hbA
  have HBR := Lib.hid hbr
  have HKZ := Lib.hid kZ
  obtain ⟨⟨z0, z1, z2, z3, z4, z5⟩, z6, z7, z8⟩ := rec9 kZ
  obtain ⟨⟨f0, f1, f2, f3, f4⟩, f5, f6, f7, f8⟩ := rec9f kZ
  obtain ⟨r0, r1, r2, r3, r4, r5⟩ := rec6 kR
  obtain ⟨s0, s1, s2⟩ := rec3 kS
  clear hbr kZ kR kS
  by_cases hk1 : decOk size T
  rotate_left
  · have hc1 : decC size T = 5 := by unfold decC; rw [if_neg hk1]
    have HN := Lib.hid (show ¬ opOk size height bs from fun h => hk1 (HOK.out.1 h).2.1)
    rw [hc1]
    clear hk1 hc1
    go_wp2
    exact bodyPost_ret (by rw [results_cell_tmp rfl]; go_simp; exact rfl) rfl ⟨_, by rw [HOC.out, if_neg HN.out]; rfl, HNO.out _ HN.out (below_of_only HBR.out (nineSet _ _ _ _ _ _ _ _ _) (Nat.le_refl _) HBR.out.size)⟩
  have hc1 : decC size T = 0 := by unfold decC; rw [if_pos hk1]
  rw [hc1]
  by_cases hk2 : mrC size height R = 0
  rotate_left
  · have he2 : (mrC size height R != 0) = true := by simpa using hk2
    have HN := Lib.hid (show ¬ opOk size height bs from fun h => hk2 (HOK.out.1 h).2.2.1)
    clear hk1 hk2 hc1
    generalize mrC size height R = CM at *
    go_wp2
    exact bodyPost_ret (by rw [results_cell_tmp rfl]; go_simp; exact rfl) rfl ⟨_, by rw [HOC.out, if_neg HN.out]; rfl, HNO.out _ HN.out (below_of_only HBR.out (nineSet _ _ _ _ _ _ _ _ _) (Nat.le_refl _) HBR.out.size)⟩
  have HY := Lib.hid (HYN.out hk2)
  rw [hk2]
  by_cases hk3 : yn = 0
  rotate_left
  · have he3 : (0 : Int) < (yn : Int) := by omega
    have HN := Lib.hid (show ¬ opOk size height bs from fun h => hk3 (by rw [HY.out, (HOK.out.1 h).2.2.2]; rfl))
    clear hk1 hk2 hc1 hk3
    go_wp2
    exact bodyPost_ret (by rw [results_cell_tmp rfl]; go_simp; exact rfl) rfl ⟨_, by rw [HOC.out, if_neg HN.out]; rfl, HNO.out _ HN.out (below_of_only HBR.out (nineSet _ _ _ _ _ _ _ _ _) (Nat.le_refl _) HBR.out.size)⟩
  have HP := Lib.hid (show opOk size height bs from HOK.out.2 ⟨by trivial, hk1, hk2, List.length_eq_zero_iff.1 (by rw [← HY.out, hk3])⟩)
  have HV1 := Lib.hid (HD1.out hk1)
  have HV2 := Lib.hid (HM1.out hk2)
  have HZ := Lib.hid (show (∀ p ∈ (d6 size T).1, 0 < p.length) ∧ (∀ p ∈ mrParts size (mrU height.toNat R).2.1, 0 < p.length) ∧ ∀ p ∈ mrPath size height (mrU height.toNat R).2.1, 0 < p.length from by
    obtain ⟨h1, h2, h3⟩ := mr_sizes hk2
    refine ⟨fun p hp => ?_, fun p hp => by rw [h2 p hp]; omega, fun p hp => by rw [h3 p hp]; omega⟩
    have := hk1.2.2.1.2.2.2.2.2.2 p hp
    omega)
  have hy0 : ¬ (0 : Int) < (yn : Int) := by omega
  clear hk1 hk2 hc1 hk3
  go_wp2
  refine bodyPost_ret (by rw [results_cell_tmp rfl]; go_simp; exact rfl) rfl ⟨_, by rw [HOC.out, if_pos HP.out], HRES.out _ _ HP.out ?_ (below_of_only HBR.out (nineSet _ _ _ _ _ _ _ _ _) (Nat.le_refl _) HBR.out.size)⟩
  have e1 : ve = (d1 T).1 ∧ vi = (d2 T).1 ∧ vo = (d4 size T).1 := by
    obtain ⟨_, _, _, e, _⟩ := HV1.out
    cases e
    exact ⟨rfl, rfl, rfl⟩
  have e2 : vx = (mrU height.toNat R).1 := by
    obtain ⟨_, _, e, _⟩ := HV2.out
    cases e
    rfl
  obtain ⟨rfl, rfl, rfl⟩ := e1
  subst e2
  exact sgn_stored HKZ.out HV1.out HV2.out HZ.out.1 HZ.out.2.1 HZ.out.2.2 (nineSet _ _ _ _ _ _ _ _ _)

end Go.Proofs.YtjhannlioddkkaaGreatDoor

namespace Go.Proofs.YtjhannlioddkkaaGreatDoor
open Go.RowKit
set_option linter.unusedVariables false

theorem ruint_e0 (n : Int) (w : World) (h0 : 0 ≤ n) (h1 : n ≤ 4611686018427387904) :
    Calls Tryz.prog 40 #[.slice none 0 0, .int .i64 n] w fun e w' => ∃ v', e = .returned v' ∧ Sl w' v' ((uintN n.toNat).map (Value.int .u8)) ∧ Below w.heap.size w w' :=
  (ruint_any (.slice none 0 0) [] n w (by simp) (Sl.nil _) h0 h1).mono fun e w' ⟨v', he, ho, hb⟩ => ⟨v', he, by simpa using Sl.of_owns ho, hb⟩

set_option maxRecDepth 100000 in
set_option maxHeartbeats 4000000 in
theorem renc_any (size ep ti : Int) (tr : List Int) (co : Int) (li : List Int) (ln : List (List Int)) (v : Value) (w : World) (hz0 : -9223372036854775808 ≤ size) (hz1 : size ≤ 9223372036854775807) (hr : RecV w v ep ti tr co li ln) :
    Calls Tryz.prog 19 #[.int .i64 size, v] w fun e w' => ∃ x, e = .returned (.tuple #[x, .int .i64 (codeE size ep ti tr co li ln)]) ∧ Sl w' x ((contE size ep ti tr co li ln).map (Value.int .u8)) ∧ Below w.heap.size w w' := by
  obtain ⟨vt, vl, vk, rfl, ht, hl, hk⟩ := hr
  obtain ⟨ta, tn, tc, rfl⟩ := ht.val
  obtain ⟨la, lc, lcc, rfl⟩ := hl.val
  obtain ⟨ka, kc, rfl, hkc, hkm⟩ := hk.shape
  have hb1 : Below w.heap.size w (w.alloc (.cells #[.int .i64 ep, .int .i64 ti, .slice ta tn tc, .int .i64 co, .slice la lc lcc, .slice ka ln.length kc] 25)) := (Below.refl _ _).alloc (Nat.le_refl _) _
  have kR := Blk.new w 25 #[.int .i64 ep, .int .i64 ti, .slice ta tn tc, .int .i64 co, .slice la lc lcc, .slice ka ln.length kc]
  have ht1 := ht.below hb1 (Nat.le_refl _)
  have hl1 := hl.below hb1 (Nat.le_refl _)
  have hk1 := hk.below hb1 (Nat.le_refl _)
  generalize hw1 : (w.alloc (.cells #[.int .i64 ep, .int .i64 ti, .slice ta tn tc, .int .i64 co, .slice la lc lcc, .slice ka ln.length kc] 25)) = w1 at *
  have HCN := Lib.hid (rcan_any size ep ti tr co li ln _ w1 hz0 hz1 ⟨_, _, _, rfl, ht1, hl1, hk1⟩)
  obtain ⟨c0, c1, c2, c3, c4, c5⟩ := rec6 kR
  by_cases hC : canI size ep ti tr co li ln
  · rw [decide_eq_true hC] at HCN
    have HE := Lib.hid (show codeE size ep ti tr co li ln = 0 ∧ contE size ep ti tr co li ln = encI ep ti tr co li ln from ⟨by unfold codeE; rw [if_pos hC], by unfold contE; rw [if_pos hC]⟩)
    have HLN := Lib.hid (encTo_len hC)
    have hep := hC.2.1
    have hti := hC.2.2.1
    have hco := hC.2.2.2.1
    have HHC := Lib.hid hC
    have HKK := Lib.hid hk
    clear ht hl hk hC
    go_enter Tryz.func19, Tryz.ntmps19
    go_wp2_with fail
    refine HCN.out.mono ?_
    rintro e w2 ⟨rfl, hb2⟩
    clear hw1 c0 c1 c2 c3 c4 c5
    have kR := kR.belowS hb2
    have ht1 := ht1.below hb2 (Nat.le_refl _)
    have hl1 := hl1.below hb2 (Nat.le_refl _)
    have hk1 := hk1.below hb2 (Nat.le_refl _)
    have hbr := hb1.trans (hb2.mono hb1.size)
    clear hb1 hb2 HCN
    have hS : World → Prop := fun _ => True
    have HGK := Lib.hid (fun w' (h : Below w2.heap.size w2 w') => rec6 (kR.belowS h))
    have HGT := Lib.hid (fun w' (h : Below w2.heap.size w2 w') => ht1.below h (Nat.le_refl _))
    have HGL := Lib.hid (fun w' (h : Below w2.heap.size w2 w') => hl1.below h (Nat.le_refl _))
    have hl0 := HLN.out 0
    have HL0 := Lib.hid hl0
    clear hl0 hS
    have HA3 := Lib.hid (show (uintN ep.toNat).length ≤ 1000 by have := HL0.out; unfold encTo at this; simp only [List.length_append] at this ⊢; omega)
    have HA4 := Lib.hid (show ((uintN ep.toNat ++ uintN ti.toNat)).length ≤ 1000 by have := HL0.out; unfold encTo at this; simp only [List.length_append] at this ⊢; omega)
    have HA5 := Lib.hid (show (((uintN ep.toNat ++ uintN ti.toNat) ++ bytesI tr)).length ≤ 1000 by have := HL0.out; unfold encTo at this; simp only [List.length_append] at this ⊢; omega)
    have HA6 := Lib.hid (show ((((uintN ep.toNat ++ uintN ti.toNat) ++ bytesI tr) ++ uintN co.toNat)).length ≤ 1000 by have := HL0.out; unfold encTo at this; simp only [List.length_append] at this ⊢; omega)
    have HXT := Lib.hid (show tr.length ≤ 1000 by have h1 := HHC.out.1; have h2 := HHC.out.2.2.2.2.1; omega)
    have HXL := Lib.hid (show li.length ≤ 1000 by have h1 := HHC.out.1; have h2 := HHC.out.2.2.2.2.1; omega)
    have HU1 := Lib.hid (fun w' (h : Below w2.heap.size w2 w') => ruint_e0 ep w' hep.1 (by omega))
    have HU2 := Lib.hid (fun v w' (hv : Sl w' v ((uintN ep.toNat).map (Value.int .u8))) => ruint_any v (uintN ep.toNat) ti w' (Nat.le_trans HA3.out (by decide)) hv hti.1 (by omega))
    have HU3 := Lib.hid (fun v w' (h : Below w2.heap.size w2 w') (hv : Sl w' v ((uintN ep.toNat ++ uintN ti.toNat).map (Value.int .u8))) => rbytes_any v (uintN ep.toNat ++ uintN ti.toNat) _ tr w' (by have := HA4.out; have := HXT.out; omega) hv (HGT.out w' h))
    have HU4 := Lib.hid (fun v w' (hv : Sl w' v (((uintN ep.toNat ++ uintN ti.toNat) ++ bytesI tr).map (Value.int .u8))) => ruint_any v ((uintN ep.toNat ++ uintN ti.toNat) ++ bytesI tr) co w' (Nat.le_trans HA5.out (by decide)) hv hco.1 (by omega))
    have HU5 := Lib.hid (fun v w' (h : Below w2.heap.size w2 w') (hv : Sl w' v ((((uintN ep.toNat ++ uintN ti.toNat) ++ bytesI tr) ++ uintN co.toNat).map (Value.int .u8))) => rbytes_any v (((uintN ep.toNat ++ uintN ti.toNat) ++ bytesI tr) ++ uintN co.toNat) _ li w' (by have := HA6.out; have := HXL.out; omega) hv (HGL.out w' h))
    have hG : Hid (w2.cell? ⟨w.heap.size, 0, none⟩ = some (.int .i64 ep) ∧ w2.cell? ⟨w.heap.size, 1, none⟩ = some (.int .i64 ti)) := ⟨(HGK.out _ (Below.refl _ _)).1, (HGK.out _ (Below.refl _ _)).2.1⟩
    clear kR ht1 hl1 hk1
    go_wp2
    go_region_held3 (fun w' => w'.cell? ⟨w.heap.size, 0, none⟩ = some (.int .i64 ep) ∧ w'.cell? ⟨w.heap.size, 1, none⟩ = some (.int .i64 ti)) (exact hG.out) (first | (go_at_call 40; refine (HU2.out v3 _ ho3).mono ?_; rintro e w4 ⟨v4, rfl, ho4, hb4⟩; have hb4 := below_trans2 hb3 hb4; have ho4 := Sl.of_owns ho4; have hG : Hid (w4.cell? ⟨w.heap.size, 0, none⟩ = some (.int .i64 ep) ∧ w4.cell? ⟨w.heap.size, 1, none⟩ = some (.int .i64 ti)) := ⟨(HGK.out _ hb4).1, (HGK.out _ hb4).2.1⟩) | (go_at_call 40; refine (HU1.out _ (by first | exact Below.refl _ _ | exact (Below.refl _ _).drew)).mono ?_; rintro e w3 ⟨v3, rfl, ho3, hb3⟩; have hb3 : Below w2.heap.size w2 w3 := ⟨hb3.os, hb3.tape, hb3.output, hb3.size, hb3.block⟩; have hG : Hid (w3.cell? ⟨w.heap.size, 0, none⟩ = some (.int .i64 ep) ∧ w3.cell? ⟨w.heap.size, 1, none⟩ = some (.int .i64 ti)) := ⟨(HGK.out _ hb3).1, (HGK.out _ hb3).2.1⟩))
    have hG : Hid (w4.cell? ⟨w.heap.size, 2, none⟩ = some (.slice ta tn tc) ∧ w4.cell? ⟨w.heap.size, 3, none⟩ = some (.int .i64 co)) := ⟨(HGK.out _ hb4).2.2.1, (HGK.out _ hb4).2.2.2.1⟩
    have HB4 := Lib.hid hb4
    have HO4 := Lib.hid ho4
    clear hb4 ho4 hb3 ho3
    go_wp2
    go_region_held3 (fun w' => w'.cell? ⟨w.heap.size, 2, none⟩ = some (.slice ta tn tc) ∧ w'.cell? ⟨w.heap.size, 3, none⟩ = some (.int .i64 co)) (exact hG.out) (first | (go_at_call 40; refine (HU4.out v5 _ ho5).mono ?_; rintro e w6 ⟨v6, rfl, ho6, hb6⟩; have hb6 := below_trans2 hb5 hb6; have ho6 := Sl.of_owns ho6; have hG : Hid (w6.cell? ⟨w.heap.size, 2, none⟩ = some (.slice ta tn tc) ∧ w6.cell? ⟨w.heap.size, 3, none⟩ = some (.int .i64 co)) := ⟨(HGK.out _ hb6).2.2.1, (HGK.out _ hb6).2.2.2.1⟩) | (go_at_call 22; refine (HU3.out v4 _ (by first | exact HB4.out | exact HB4.out.drew) (by first | exact HO4.out | exact HO4.out.below (Below.refl _ _).drew (Nat.le_refl _))).mono ?_; rintro e w5 ⟨v5, rfl, ho5, hb5⟩; have hb5 : Below w2.heap.size w2 w5 := (by first | exact below_trans2 HB4.out hb5 | exact below_trans2 HB4.out.drew hb5); have ho5 := Sl.of_owns ho5; have hG : Hid (w5.cell? ⟨w.heap.size, 2, none⟩ = some (.slice ta tn tc) ∧ w5.cell? ⟨w.heap.size, 3, none⟩ = some (.int .i64 co)) := ⟨(HGK.out _ hb5).2.2.1, (HGK.out _ hb5).2.2.2.1⟩))
    have c4 := (HGK.out _ hb6).2.2.2.2.1
    clear hb5 ho5 HO4 HB4
    have HB6 := Lib.hid hb6
    have HO6 := Lib.hid ho6
    clear hb6 ho6
    go_wp2_with fail
    refine (HU5.out v6 _ HB6.out HO6.out).mono ?_
    rintro e w7 ⟨b7, rfl, ho7, hb7⟩
    have hs7 : Sl w7 b7 (((((uintN ep.toNat ++ uintN ti.toNat) ++ bytesI tr) ++ uintN co.toNat) ++ bytesI li).map (Value.int .u8)) := by exact Sl.of_owns ho7
    have hb7 := below_trans2 HB6.out hb7
    have hbr := hbr.trans (hb7.mono hbr.size)
    have c5 := (HGK.out _ hb7).2.2.2.2.2
    clear ho7 hb7 HO6 HB6 c4
    have hs7' : Sl w7 b7 ((encTo ep ti tr co li ln 0).map (Value.int .u8)) := by
      have e : encTo ep ti tr co li ln 0 = ((((uintN ep.toNat ++ uintN ti.toNat) ++ bytesI tr) ++ uintN co.toNat) ++ bytesI li) := by unfold encTo; simp
      rw [e]; exact hs7
    clear hs7
    go_wp2
    go_loopw [6, 33] (fun b i wr => ∃ (k : Nat) (bv : Value), bv = b ∧ k ≤ ln.length ∧ i = .int .i64 k ∧ Sl wr bv ((encTo ep ti tr co li ln k).map (Value.int .u8)) ∧ Below w.heap.size w wr) (fun _ i _ => ln.length - (intOf i).toNat)
    case atStart => exact ⟨0, _, rfl, by omega, rfl, hs7', hbr⟩
    case round =>
      clear hs7' hbr
      obtain ⟨k, bv, rfl, hk, rfl, hsv, hbr⟩ := hrel
      obtain ⟨ba, bn, bc, rfl⟩ := hsv.val
      by_cases hlt : k < ln.length
      · have hkI : (k : Int) < (ln.length : Int) := by omega
        obtain ⟨b, off, rfl, hbl, u, hu, hsu⟩ := (HKK.out.below hbr (Nat.le_refl _)).at hlt
        have HST := Lib.hid (encTo_succ ep ti tr co li ln k hlt)
        have HLP := Lib.hid (show (ln.getD k []).length ≤ 1000 by
          rw [List.getD_eq_getElem?_getD, List.getElem?_eq_getElem hlt]
          have h1 := HHC.out.1
          have h2 := HHC.out.2.2.2.2.2.2 _ (List.getElem_mem hlt)
          simp only [Option.getD_some]; omega)
        have HLT := Lib.hid (HLN.out k)
        generalize ln.getD k [] = P at *
        obtain ⟨ua, un, uc, rfl⟩ := hsu.val
        have HU := Lib.hid (rbytes_any (.slice ba bn bc) (encTo ep ti tr co li ln k) (.slice ua un uc) P wr (by have h1 := HLT.out; have h2 := HLP.out; omega) hsv hsu)
        clear hsv hsu
        go_wp2_with fail
        refine HU.out.mono ?_
        rintro e w9 ⟨b9, rfl, ho9, hb9⟩
        have hs9 := Sl.of_owns ho9
        have hbr := hbr.trans (hb9.mono hbr.size)
        clear ho9 hb9 HU
        go_wp2
        exact ⟨⟨k + 1, b9, rfl, by omega, by go_num, by rw [HST.out]; exact hs9, hbr⟩, by simp [intOf]; omega⟩
      · obtain rfl : k = ln.length := by omega
        have hkI : ¬ (ln.length : Int) < (ln.length : Int) := by omega
        rw [encTo_all] at hsv
        go_wp2
        go_ret2
        rw [HE.out.1, HE.out.2]
        exact ⟨_, rfl, hsv, hbr⟩
  · rw [decide_eq_false hC] at HCN
    have HE := Lib.hid (show codeE size ep ti tr co li ln = 1 ∧ contE size ep ti tr co li ln = [] from ⟨by unfold codeE; rw [if_neg hC], by unfold contE; rw [if_neg hC]⟩)
    clear ht hl hk hC ht1 hl1 hk1
    go_enter Tryz.func19, Tryz.ntmps19
    go_wp2_with fail
    refine HCN.out.mono ?_
    rintro e w2 ⟨rfl, hb2⟩
    clear hw1
    have hbr := hb1.trans (hb2.mono hb1.size)
    go_wp2
    go_ret2
    rw [HE.out.1, HE.out.2]
    exact ⟨_, rfl, Sl.nil _, hbr⟩

end Go.Proofs.YtjhannlioddkkaaGreatDoor

namespace Go.Proofs.YtjhannlioddkkaaGreatDoor
open Go.RowKit
set_option linter.unusedVariables false

def hashR (size ep ti : Int) (tr : List Int) (co : Int) (li : List Int) (ln : List (List Int)) : List Int := if canI size ep ti tr co li ln then hashT size 5 [encI ep ti tr co li ln] else []

set_option maxHeartbeats 1000000 in
theorem rhash_any (size ep ti : Int) (tr : List Int) (co : Int) (li : List Int) (ln : List (List Int)) (v : Value) (w : World) (hz0 : -9223372036854775808 ≤ size) (hz1 : size ≤ 9223372036854775807) (hB : IsB tr ∧ IsB li ∧ ∀ p ∈ ln, IsB p) (hr : RecV w v ep ti tr co li ln) (hT : TzTab w) (ht : Tabs w) :
    Calls Tryz.prog 32 #[.int .i64 size, v] w fun e w' => ∃ x, e = .returned x ∧ Sl w' x ((hashR size ep ti tr co li ln).map (Value.int .u8)) ∧ Below w.heap.size w w' := by
  obtain ⟨ta, tn, tc, la, lc, lcc, ka, kc, rfl⟩ := hr.val
  have hb1 : Below w.heap.size w (w.alloc (.cells #[.int .i64 ep, .int .i64 ti, .slice ta tn tc, .int .i64 co, .slice la lc lcc, .slice ka ln.length kc] 25)) := (Below.refl _ _).alloc (Nat.le_refl _) _
  have HE := Lib.hid (enc_any size ep ti tr co li ln _ (w.alloc (.cells #[.int .i64 ep, .int .i64 ti, .slice ta tn tc, .int .i64 co, .slice la lc lcc, .slice ka ln.length kc] 25)) hz0 hz1 (hr.below hb1 (Nat.le_refl _)) (hT.below hb1))
  have HB := Lib.hid hB
  have HTB := Lib.hid ht
  clear hr hB hT ht
  by_cases hC : canI size ep ti tr co li ln
  · rw [show codeE size ep ti tr co li ln = 0 from by unfold codeE; rw [if_pos hC], show contE size ep ti tr co li ln = encI ep ti tr co li ln from by unfold contE; rw [if_pos hC]] at HE
    have HH := Lib.hid (show hashR size ep ti tr co li ln = hashT size 5 [encI ep ti tr co li ln] from by unfold hashR; rw [if_pos hC])
    have HIB := Lib.hid (encI_isB hC HB.out.1 HB.out.2.1 HB.out.2.2)
    clear hC
    generalize encI ep ti tr co li ln = en at *
    go_enter Tryz.func32, Tryz.ntmps32
    go_wp2_with fail
    refine HE.out.mono ?_
    rintro e w2 ⟨x, rfl, hx, hb2⟩
    obtain ⟨xa, xn, xc, rfl⟩ := hx.val
    have hbr := below_trans2 hb1 hb2
    have hbL : Below w2.heap.size w2 (w2.alloc (.cells #[.slice xa xn xc] 22)) := (Below.refl _ _).alloc (Nat.le_refl _) _
    have hSL := Sls.litA _ 22 (show SlAll w2 [.slice xa xn xc] [en] from ⟨hx, trivial⟩) (by simp [maxLen])
    have hbr := below_trans2 hbr hbL
    have HHC := Lib.hid (hash_any size 5 _ [en] _ (by simp) (by decide) (by decide) hSL (by intro p hp; simp only [List.mem_singleton] at hp; subst hp; exact HIB.out) (HTB.out.below hbr))
    clear hSL hx HE hb1 hb2
    go_wp2_with fail
    refine HHC.out.mono ?_
    rintro e w4 ⟨y, rfl, hy, hb4⟩
    have hbr := below_trans2 hbr hb4
    go_wp2
    go_ret
    exact ⟨_, rfl, by rw [HH.out]; exact hy, hbr⟩
  · rw [show codeE size ep ti tr co li ln = 1 from by unfold codeE; rw [if_neg hC], show contE size ep ti tr co li ln = [] from by unfold contE; rw [if_neg hC]] at HE
    have HH := Lib.hid (show hashR size ep ti tr co li ln = [] from by unfold hashR; rw [if_neg hC])
    clear hC
    go_enter Tryz.func32, Tryz.ntmps32
    go_wp2_with fail
    refine HE.out.mono ?_
    rintro e w2 ⟨x, rfl, hx, hb2⟩
    have hbr := below_trans2 hb1 hb2
    go_wp2
    go_ret
    exact ⟨_, rfl, by rw [HH.out]; exact Sl.nil _, hbr⟩

set_option maxHeartbeats 1000000 in
theorem refrhash_any (size ep ti : Int) (tr : List Int) (co : Int) (li : List Int) (ln : List (List Int)) (v : Value) (w : World) (hz0 : -9223372036854775808 ≤ size) (hz1 : size ≤ 9223372036854775807) (hB : IsB tr ∧ IsB li ∧ ∀ p ∈ ln, IsB p) (hr : RecV w v ep ti tr co li ln) :
    Calls Tryz.prog 36 #[.int .i64 size, v] w fun e w' => ∃ x, e = .returned x ∧ Sl w' x ((hashR size ep ti tr co li ln).map (Value.int .u8)) ∧ Below w.heap.size w w' := by
  obtain ⟨ta, tn, tc, la, lc, lcc, ka, kc, rfl⟩ := hr.val
  have hb1 : Below w.heap.size w (w.alloc (.cells #[.int .i64 ep, .int .i64 ti, .slice ta tn tc, .int .i64 co, .slice la lc lcc, .slice ka ln.length kc] 25)) := (Below.refl _ _).alloc (Nat.le_refl _) _
  have HE := Lib.hid (renc_any size ep ti tr co li ln _ (w.alloc (.cells #[.int .i64 ep, .int .i64 ti, .slice ta tn tc, .int .i64 co, .slice la lc lcc, .slice ka ln.length kc] 25)) hz0 hz1 (hr.below hb1 (Nat.le_refl _)))
  have HB := Lib.hid hB
  clear hr hB
  by_cases hC : canI size ep ti tr co li ln
  · rw [show codeE size ep ti tr co li ln = 0 from by unfold codeE; rw [if_pos hC], show contE size ep ti tr co li ln = encI ep ti tr co li ln from by unfold contE; rw [if_pos hC]] at HE
    have HH := Lib.hid (show hashR size ep ti tr co li ln = hashT size 5 [encI ep ti tr co li ln] from by unfold hashR; rw [if_pos hC])
    have HIB := Lib.hid (encI_isB hC HB.out.1 HB.out.2.1 HB.out.2.2)
    clear hC
    generalize encI ep ti tr co li ln = en at *
    go_enter Tryz.func36, Tryz.ntmps36
    go_wp2_with fail
    refine HE.out.mono ?_
    rintro e w2 ⟨x, rfl, hx, hb2⟩
    obtain ⟨xa, xn, xc, rfl⟩ := hx.val
    have hbr := below_trans2 hb1 hb2
    have hbL : Below w2.heap.size w2 (w2.alloc (.cells #[.slice xa xn xc] 22)) := (Below.refl _ _).alloc (Nat.le_refl _) _
    have hSL := Sls.litA _ 22 (show SlAll w2 [.slice xa xn xc] [en] from ⟨hx, trivial⟩) (by simp [maxLen])
    have hbr := below_trans2 hbr hbL
    have HHC := Lib.hid (refHash_any size 5 _ [en] _ (by simp) (by decide) (by decide) hSL (by intro p hp; simp only [List.mem_singleton] at hp; subst hp; exact HIB.out))
    clear hSL hx HE hb1 hb2
    go_wp2_with fail
    refine HHC.out.mono ?_
    rintro e w4 ⟨y, rfl, hy, hb4⟩
    have hbr := below_trans2 hbr hb4
    go_wp2
    go_ret
    exact ⟨_, rfl, by rw [HH.out]; exact hy, hbr⟩
  · rw [show codeE size ep ti tr co li ln = 1 from by unfold codeE; rw [if_neg hC], show contE size ep ti tr co li ln = [] from by unfold contE; rw [if_neg hC]] at HE
    have HH := Lib.hid (show hashR size ep ti tr co li ln = [] from by unfold hashR; rw [if_neg hC])
    clear hC
    go_enter Tryz.func36, Tryz.ntmps36
    go_wp2_with fail
    refine HE.out.mono ?_
    rintro e w2 ⟨x, rfl, hx, hb2⟩
    have hbr := below_trans2 hb1 hb2
    go_wp2
    go_ret
    exact ⟨_, rfl, by rw [HH.out]; exact Sl.nil _, hbr⟩

end Go.Proofs.YtjhannlioddkkaaGreatDoor

namespace Go.Proofs.YtjhannlioddkkaaGreatDoor
open Go.RowKit
set_option linter.unusedVariables false

def canB (size : Int) (n : Nat) (idx : Int) : Bool := decide (1 ≤ size ∧ size ≤ 32 ∧ n ≤ 64 ∧ 0 ≤ idx ∧ idx < 256)
/-- A chain's beginning. -/
def secI (size : Int) (seed : List Int) (idx i : Int) : List Int := if canB size seed.length idx then hashT size 6 [seed, numI idx, numI i] else []

theorem secI_isB (size : Int) (seed : List Int) (idx i : Int) : IsB (secI size seed idx i) := by
  unfold secI; split
  · exact hashT_isB' _ _ _
  · intro x hx; cases hx
theorem secI_len (size : Int) (seed : List Int) (idx i : Int) : (secI size seed idx i).length ≤ 32 := by
  unfold secI; split
  · exact hashT_len _ _ _
  · simp

theorem chains_any (n : Nat) (w : World) (h : n ≤ 1000) : Calls Tryz.prog 71 #[.int .i64 n] w fun e w' => e = .returned (.int .i64 (4 * n + 5 : Nat)) ∧ w = w' := by
  have hI : (n : Int) ≤ 1000 := by omega
  go_enter Tryz.func71, Tryz.ntmps71
  go_wp2
  go_ret
  exact ⟨ret_int (by omega), rfl⟩

theorem can_any (size : Int) (v : Value) (bs : List Int) (idx : Int) (w : World) (hs : Sl w v (bs.map (Value.int .u8))) :
    Calls Tryz.prog 70 #[.int .i64 size, v, .int .i64 idx] w fun e w' => e = .returned (.bool (canB size bs.length idx)) ∧ w = w' := by
  obtain ⟨b, hb⟩ : ∃ b, b = canB size bs.length idx := ⟨_, rfl⟩
  rw [← hb]
  have HB := Lib.hid hb
  clear hb
  obtain ⟨a, cap, rfl, hc, hm⟩ := hs.shape
  rw [List.length_map] at *
  by_cases h0 : 1 ≤ size
  ·
    by_cases h1 : size ≤ 32
    ·
      by_cases h2 : bs.length ≤ 64
      ·
        by_cases h3 : 0 ≤ idx
        ·
          by_cases h4 : idx < 256
          ·
            go_enter Tryz.func70, Tryz.ntmps70
            go_wp2
            go_ret
            exact ⟨ret_bool (by rw [HB.out]; unfold canB; first | exact (decide_eq_true (by omega)).symm | exact (decide_eq_false (by omega)).symm), rfl⟩
          ·
            go_enter Tryz.func70, Tryz.ntmps70
            go_wp2
            go_ret
            exact ⟨ret_bool (by rw [HB.out]; unfold canB; first | exact (decide_eq_true (by omega)).symm | exact (decide_eq_false (by omega)).symm), rfl⟩
        ·
          go_enter Tryz.func70, Tryz.ntmps70
          go_wp2
          go_ret
          exact ⟨ret_bool (by rw [HB.out]; unfold canB; first | exact (decide_eq_true (by omega)).symm | exact (decide_eq_false (by omega)).symm), rfl⟩
      ·
        go_enter Tryz.func70, Tryz.ntmps70
        go_wp2
        go_ret
        exact ⟨ret_bool (by rw [HB.out]; unfold canB; first | exact (decide_eq_true (by omega)).symm | exact (decide_eq_false (by omega)).symm), rfl⟩
    ·
      go_enter Tryz.func70, Tryz.ntmps70
      go_wp2
      go_ret
      exact ⟨ret_bool (by rw [HB.out]; unfold canB; first | exact (decide_eq_true (by omega)).symm | exact (decide_eq_false (by omega)).symm), rfl⟩
  ·
    go_enter Tryz.func70, Tryz.ntmps70
    go_wp2
    go_ret
    exact ⟨ret_bool (by rw [HB.out]; unfold canB; first | exact (decide_eq_true (by omega)).symm | exact (decide_eq_false (by omega)).symm), rfl⟩


theorem refCan_any (size : Int) (v : Value) (bs : List Int) (idx : Int) (w : World) (hs : Sl w v (bs.map (Value.int .u8))) :
    Calls Tryz.prog 76 #[.int .i64 size, v, .int .i64 idx] w fun e w' => e = .returned (.bool (canB size bs.length idx)) ∧ w = w' := by
  obtain ⟨b, hb⟩ : ∃ b, b = canB size bs.length idx := ⟨_, rfl⟩
  rw [← hb]
  have HB := Lib.hid hb
  clear hb
  obtain ⟨a, cap, rfl, hc, hm⟩ := hs.shape
  rw [List.length_map] at *
  by_cases h0 : 1 ≤ size
  ·
    by_cases h1 : size ≤ 32
    ·
      by_cases h2 : bs.length ≤ 64
      ·
        by_cases h3 : 0 ≤ idx
        ·
          by_cases h4 : idx < 256
          ·
            go_enter Tryz.func76, Tryz.ntmps76
            go_wp2
            go_ret
            exact ⟨ret_bool (by rw [HB.out]; unfold canB; first | exact (decide_eq_true (by omega)).symm | exact (decide_eq_false (by omega)).symm), rfl⟩
          ·
            go_enter Tryz.func76, Tryz.ntmps76
            go_wp2
            go_ret
            exact ⟨ret_bool (by rw [HB.out]; unfold canB; first | exact (decide_eq_true (by omega)).symm | exact (decide_eq_false (by omega)).symm), rfl⟩
        ·
          go_enter Tryz.func76, Tryz.ntmps76
          go_wp2
          go_ret
          exact ⟨ret_bool (by rw [HB.out]; unfold canB; first | exact (decide_eq_true (by omega)).symm | exact (decide_eq_false (by omega)).symm), rfl⟩
      ·
        go_enter Tryz.func76, Tryz.ntmps76
        go_wp2
        go_ret
        exact ⟨ret_bool (by rw [HB.out]; unfold canB; first | exact (decide_eq_true (by omega)).symm | exact (decide_eq_false (by omega)).symm), rfl⟩
    ·
      go_enter Tryz.func76, Tryz.ntmps76
      go_wp2
      go_ret
      exact ⟨ret_bool (by rw [HB.out]; unfold canB; first | exact (decide_eq_true (by omega)).symm | exact (decide_eq_false (by omega)).symm), rfl⟩
  ·
    go_enter Tryz.func76, Tryz.ntmps76
    go_wp2
    go_ret
    exact ⟨ret_bool (by rw [HB.out]; unfold canB; first | exact (decide_eq_true (by omega)).symm | exact (decide_eq_false (by omega)).symm), rfl⟩


set_option maxHeartbeats 400000 in
theorem refKey0_any (size idx : Int) (v : Value) (bs : List Int) (w : World) (hx0 : -9223372036854775808 ≤ idx) (hx1 : idx ≤ 9223372036854775807) (hB : IsB bs) (hs : Sl w v (bs.map (Value.int .u8))) :
    Calls Tryz.prog 79 #[.int .i64 size, .int .i64 idx, v] w fun e w' => ∃ x, e = .returned x ∧ Sl w' x ((hashT size 8 [numI idx, bs]).map (Value.int .u8)) ∧ Below w.heap.size w w' := by
  obtain ⟨va, vn, vc, rfl⟩ := hs.val
  go_enter Tryz.func79, Tryz.ntmps79
  go_wp2_with fail
  refine (refNumber_any idx w hx0 hx1).mono ?_
  rintro e w2 ⟨n1, rfl, hn1, hb2⟩
  have hs := hs.below hb2 (Nat.le_refl _)
  obtain ⟨a1, l1, c1, rfl⟩ := hn1.val
  have hL := Sls.litA _ 22 (show SlAll w2 [.slice a1 l1 c1, .slice va vn vc] [numI idx, bs] from ⟨hn1, hs, trivial⟩) (by simp [maxLen])
  have hbA := hb2.alloc hb2.size (.cells #[.slice a1 l1 c1, .slice va vn vc] 22)
  have HH := Lib.hid (refHash_any size 8 _ _ _ (by simp) (by decide) (by decide) hL (fun p hp => by
    simp only [List.mem_cons, List.not_mem_nil, or_false] at hp
    rcases hp with rfl | rfl
    · exact numI_isB _
    · exact hB))
  clear hL hs hn1 hb2
  go_wp2_with fail
  refine HH.out.mono ?_
  rintro e w5 ⟨y, rfl, hy, hb5⟩
  have hbr := hbA.trans (hb5.mono hbA.size)
  go_wp2
  go_ret
  exact ⟨_, rfl, hy, hbr⟩


end Go.Proofs.YtjhannlioddkkaaGreatDoor
