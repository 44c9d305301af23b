/- Sign of the chains' layer: its list is the call's own. Trees of signing keys: Sign, the program's. Trees of signing keys: what was signed leads to the root. Conditions: none. Trees of signing keys: the walk of the law MtsBack. -/
import Derived.Test.YtililoojjfcfgaaDoorMtsM2
import Derived.Test.YtililoojjfcfgaaDoorSig1
import Derived.Deep.RegionHeld3
import Derived.Deep.Cut
import Derived.Test.YtililoojjfcfgaaDoorMtsM3
import Derived.Test.YtililoojjfcfgaaDoorMake
import Derived.Test.YtililoojjfcfgaaDoorShaE
import Derived.Deep.DeepCutAuto
namespace Go.Proofs.YtililoojjfcfgaaDoor
open Go.RowKit
set_option linter.unusedVariables false

set_option maxRecDepth 100000 in
set_option maxHeartbeats 1000000 in
theorem sign_own (size : Int) (v : Value) (seed : List Int) (idx : Int) (vd : Value) (dg : List Int) (w : World) (hx0 : -9223372036854775808 ≤ idx) (hx1 : idx ≤ 9223372036854775807)
    (hB : IsB seed) (hs : Sl w v (seed.map (Value.int .u8))) (hBd : IsB dg) (hsd : Sl w vd (dg.map (Value.int .u8))) (ht : Tabs w) :
    Calls Tryd.prog 82 #[.int .i64 size, v, .int .i64 idx, vd] w fun e w' => ∃ x, e = .returned (.tuple #[x, .int .i64 (signE size seed.length idx dg.length)]) ∧ OSls w' 0 x (signL size seed idx dg) ∧ Below w.heap.size w w' := by
  have HC := Lib.hid (can_any size v seed idx w hs)
  obtain ⟨va, vn, vc, rfl⟩ := hs.val
  obtain ⟨da, dc, rfl, hdc, _⟩ := hsd.shape
  rw [List.length_map] at *
  have HE := Lib.hid (show signE size seed.length idx dg.length = if canB size seed.length idx = true ∧ (dg.length : Int) = size then 0 else 1 from rfl)
  have HL := Lib.hid (show signL size seed idx dg = if canB size seed.length idx = true ∧ (dg.length : Int) = size then sgU size seed idx (digitsOf dg) (4 * dg.length + 5) else [] from rfl)
  by_cases hcb : canB size seed.length idx = true
  · have hcI : 1 ≤ size ∧ size ≤ 32 := by unfold canB at hcb; have := of_decide_eq_true hcb; omega
    rw [hcb] at HC HE HL
    clear hcb
    by_cases hln : (dg.length : Int) = size
    · rw [if_pos ⟨rfl, hln⟩] at HE HL
      subst hln
      rw [HE.out, HL.out]
      have hl32 : dg.length ≤ 32 := by omega
      have HDG := Lib.hid (digits_short dg (.slice da dg.length dc) hBd hl32 w hsd)
      have HDL := Lib.hid (digits_len dg hl32)
      have HDM := Lib.hid (fun j => digits_mem (a := dg) hl32 j)
      generalize digitsOf dg = DD at *
      go_enter Tryd.func82, Tryd.ntmps82
      go_wp2_with fail
      refine HC.out.mono ?_
      rintro e w1 ⟨rfl, rfl⟩
      go_wp2_with fail
      refine HDG.out.mono ?_
      rintro e w1 ⟨v1, rfl, hd1, hb1⟩
      obtain ⟨xa, xc, rfl, _, _⟩ := hd1.shape
      rw [List.length_map, HDL.out]
      have hs := hs.below hb1 (Nat.le_refl _)
      have ht := ht.below hb1
      have hb1s := hb1.size
      clear HDG hsd HC
      go_wp2
      go_loopw [10, 27] (fun l i wr => ∃ (k : Nat) (lv : Value), lv = l ∧ k ≤ 4 * dg.length + 5 ∧ i = .int .i64 k ∧ OSls wr w1.heap.size lv (sgU dg.length seed idx DD k) ∧ Below w1.heap.size w1 wr) (fun _ i _ => 4 * dg.length + 5 - (intOf i).toNat)
      case atStart => exact ⟨0, _, rfl, by omega, rfl, OSls.nil _ _, Below.refl _ _⟩
      case round =>
        obtain ⟨k, l, rfl, hk, rfl, hO, hbr1⟩ := hrel
        by_cases hlt : k < 4 * dg.length + 5
        · obtain ⟨xb, xo, rfl, hxb, hxc⟩ := hd1.ints (k := k) (by rw [HDL.out]; exact hlt)
          have hxk : wr.cell? ⟨xb, xo + k, none⟩ = some (.int .i64 (DD.getD k 0)) := by rw [hbr1.cell (p := ⟨xb, xo + k, none⟩) hxb]; exact hxc k (by rw [HDL.out]; exact hlt)
          have hdm := HDM.out k
          have HSN := Lib.hid (sgU_succ (dg.length : Int) seed idx DD k)
          generalize DD.getD k 0 = D at *
          obtain ⟨d, rfl⟩ : ∃ d : Nat, D = d := ⟨D.toNat, by omega⟩
          rw [Int.toNat_natCast] at HSN
          have hs := hs.below hbr1 (Nat.le_refl _)
          have ht := ht.below hbr1
          have hkI : (k : Int) < 4 * (dg.length : Int) + 5 := by omega
          clear hxc
          go_wp2_with fail
          refine (secret_any dg.length (.slice va vn vc) seed idx k wr hx0 hx1 (by omega) (by omega) hB hs ht).mono ?_
          rintro e w2 ⟨x1, rfl, hx1, hb2⟩
          have ht := ht.below hb2
          have hO := hO.below hb2
          have hbr1 := hbr1.trans (hb2.mono hbr1.size)
          clear hb2
          go_wp2_with fail
          refine (chain0_any dg.length x1 _ idx k d w2 (by assumption) (by assumption) (by omega) (by omega) (by omega) (by have := secI_len dg.length seed idx k; omega) (secI_isB _ _ _ _) hx1 ht).mono ?_
          rintro e w3 ⟨x2, rfl, hx2, hb3⟩
          have hO := hO.below hb3
          have hbr1 := hbr1.trans (hb3.mono hbr1.size)
          obtain ⟨a2, l2, c2, rfl⟩ := hx2.val
          have hbA : Below w3.heap.size w3 (w3.alloc (.cells #[.slice a2 l2 c2] 22)) := (Below.refl _ _).alloc (Nat.le_refl _) _
          have HLN := Lib.hid (show (sgU (dg.length : Int) seed idx DD k).length + 1 ≤ 5000000000000 by rw [sgU_len]; omega)
          have hO := hO.below hbA
          have hx2 := hx2.below hbA (Nat.le_refl _)
          have hbr1 := hbr1.trans (hbA.mono hbr1.size)
          have hc2 := (Blk.new w3 22 #[.slice a2 l2 c2]).cell 0
          clear hb3 hxk
          go_wp2_with (at_builtin; refine wpList_append_text rfl _ _ rfl w1.heap.size _ _ rfl hO w3.heap.size 1 rfl (.slice a2 l2 c2) hc2 _ hx2 HLN.out hbr1.size ?_)
          intro l5 w5 hO5 hb5 hg5
          have hbr1 := hbr1.trans hb5
          clear hg5 hb5 hO hx2 hc2 hbA
          go_wp2
          go_roundw
          case rel => exact ⟨k + 1, l5, rfl, by omega, by go_num, by rw [HSN.out]; exact hO5, hbr1⟩
          case measure => simp [intOf]; omega
        · obtain rfl : k = 4 * dg.length + 5 := by omega
          have hkI : ¬ (4 * (dg.length : Int) + 5 : Int) < 4 * (dg.length : Int) + 5 := by omega
          go_wp2
          go_ret2
          exact ⟨_, rfl, OSls.base hO (Nat.zero_le _), hb1.trans (hbr1.mono hb1s)⟩
    · rw [if_neg (fun h => hln h.2)] at HE HL
      rw [HE.out, HL.out]
      go_enter Tryd.func82, Tryd.ntmps82
      go_wp2_with fail
      refine HC.out.mono ?_
      rintro e w1 ⟨rfl, rfl⟩
      go_wp2
      go_ret2
      exact ⟨_, rfl, OSls.nil _ _, Below.refl _ _⟩
  · rw [if_neg (fun h => hcb h.1)] at HE HL
    rw [Bool.not_eq_true] at hcb
    rw [hcb] at HC
    rw [HE.out, HL.out]
    clear hcb
    go_enter Tryd.func82, Tryd.ntmps82
    go_wp2_with fail
    refine HC.out.mono ?_
    rintro e w1 ⟨rfl, rfl⟩
    go_wp2
    go_ret2
    exact ⟨_, rfl, OSls.nil _ _, Below.refl _ _⟩

end Go.Proofs.YtililoojjfcfgaaDoor

namespace Go.Proofs.YtililoojjfcfgaaDoor
open Go.RowKit
set_option linter.unusedVariables false

theorem xor_one (p : Nat) (h : p < 256) : bits BinOp.xor IntKind.i64 (p : Int) 1 = ((if p % 2 = 1 then p - 1 else p + 1 : Nat) : Int) := by
  have hx : p ^^^ 1 = if p % 2 = 1 then p - 1 else p + 1 := by
    have : ∀ q : Fin 256, (q.1 ^^^ 1) = if q.1 % 2 = 1 then q.1 - 1 else q.1 + 1 := by decide +kernel
    exact this ⟨p, h⟩
  have h1 : (BitVec.ofInt 64 (p : Int)).toNat = p := by
    rw [BitVec.ofInt_natCast, BitVec.toNat_ofNat]; exact Nat.mod_eq_of_lt (by omega)
  have h2 : (BitVec.ofInt 64 1).toNat = 1 := by decide
  show IntKind.i64.wrap ((BitVec.ofInt 64 (p : Int) ^^^ BitVec.ofInt 64 1).toNat : Int) = _
  rw [BitVec.toNat_xor, h1, h2, hx, IntKind.wrap_i64]
  split <;> omega
/-- The one beside. -/
def twin (p : Nat) : Nat := if p % 2 = 1 then p - 1 else p + 1
def pathI (n : Int) (seed : List Int) (h ix : Nat) (k : Nat) : List (List Int) := (List.range k).map fun l => (lvI n seed h l).getD (twin (ix / 2 ^ l)) []
theorem pathI_succ (n : Int) (seed : List Int) (h ix k : Nat) : pathI n seed h ix (k + 1) = pathI n seed h ix k ++ [(lvI n seed h k).getD (twin (ix / 2 ^ k)) []] := by
  simp [pathI, List.range_succ]
theorem pathI_len (n : Int) (seed : List Int) (h ix k : Nat) : (pathI n seed h ix k).length = k := by simp [pathI]
theorem half_lt_pow {ix h k : Nat} (hi : ix < 2 ^ h) (hk : k ≤ h) : ix / 2 ^ k < 2 ^ (h - k) := by
  rw [Nat.div_lt_iff_lt_mul (Nat.two_pow_pos k), ← Nat.pow_add, Nat.sub_add_cancel hk]; exact hi
theorem twin_lt {ix h k : Nat} (hi : ix < 2 ^ h) (hk : k < h) : twin (ix / 2 ^ k) < 2 ^ (h - k) := by
  have h1 := half_lt_pow hi (Nat.le_of_lt hk)
  rw [two_half h k hk] at h1 ⊢
  generalize ix / 2 ^ k = q at *
  generalize 2 ^ (h - (k + 1)) = M at *
  unfold twin
  split <;> omega

theorem sig_noB {i : Int} {sv lv : Value} (h1 : isSlV sv) (h2 : isSlV lv) : ∀ (j : Nat) (x : Int), (#[.int .i64 i, sv, lv] : Array Value)[j]? ≠ some (.int .u8 x) := by
  obtain ⟨_, _, _, rfl⟩ := h1
  obtain ⟨_, _, _, rfl⟩ := h2
  intro j x e
  match j, e with
  | 0, e => simp at e
  | 1, e => simp at e
  | 2, e => simp at e
  | j + 3, e => simp at e
theorem MKB.keepS {w w' : World} {g n h : Nat} {seed : List Int} (k : MKB w g n h seed) {b : Nat} {cs : Array Value} (kb : Blk w b 61 cs) (hcs : ∀ (j : Nat) (x : Int), cs[j]? ≠ some (.int .u8 x)) (hg : w.grownBy w' (some b)) : MKB w' g n h seed := by
  obtain ⟨sv, lv, h1, h2, h3⟩ := k
  have hne : some g ≠ some b := fun e => Blk.ne_ h2 kb (by decide) (by simpa using e)
  exact ⟨sv, lv, h1.keepG kb hcs hg, h2.grown hg hne, h3.keepGk kb (by decide) (by decide) hcs hg⟩
theorem MK.keepS {w w' : World} {g n h : Nat} {seed : List Int} (k : MK w g n h seed) {b : Nat} {cs : Array Value} (kb : Blk w b 61 cs) (hcs : ∀ (j : Nat) (x : Int), cs[j]? ≠ some (.int .u8 x)) (hg : w.grownBy w' (some b)) : MK w' g n h seed := by
  rcases k with k | ⟨sv, h1, h2⟩
  · exact .inl (k.keepS kb hcs hg)
  · have hne : some g ≠ some b := fun e => Blk.ne_ h2 kb (by decide) (by simpa using e)
    exact .inr ⟨sv, h1.keepG kb hcs hg, h2.grown hg hne⟩
/-- What stands while a signature is made: ws is the world behind the first hash. -/
structure SgS (w ws wr : World) (g n h A B ix : Nat) (seed : List Int) (SLv : Value) (SL : List (List Int)) (k : Nat) (pv : Value) : Prop where
  mm : (k = 0 ∧ MK ws g n h seed) ∨ MKB ws g n h seed
  ht : Tabs ws
  hs : OSls ws 0 SLv SL
  kA : Blk ws A 61 #[.int .i64 0, .slice none 0 0, .slice none 0 0]
  kB : ∃ p0, isSlV p0 ∧ Blk ws B 61 #[.int .i64 ix, SLv, p0]
  gw : w.grownBy ws (some g)
  gr : ws.grownBy wr (some B)
  kR : Blk wr B 61 #[.int .i64 ix, SLv, pv]
  hO : OSls wr ws.heap.size pv (pathI n seed h ix k)
  h0 : k = 0 → pv = .slice none 0 0
  sl : isSlV SLv
  hA : A < B
  wA : w.heap.size ≤ A
section
variable {w ws wr : World} {g n h A B ix : Nat} {seed : List Int} {SLv : Value} {SL : List (List Int)} {k : Nat} {pv : Value}
theorem SgS.mkR (s : SgS w ws wr g n h A B ix seed SLv SL k pv) : MK wr g n h seed := by
  obtain ⟨p0, hp, kb⟩ := s.kB
  rcases s.mm with ⟨_, m⟩ | m
  · exact m.keepS kb (sig_noB s.sl hp) s.gr
  · exact .inl (m.keepS kb (sig_noB s.sl hp) s.gr)
theorem SgS.mkBR (s : SgS w ws wr g n h A B ix seed SLv SL k pv) (hk : k ≠ 0) : MKB wr g n h seed := by
  obtain ⟨p0, hp, kb⟩ := s.kB
  rcases s.mm with ⟨e, m⟩ | m
  · exact absurd e hk
  · exact m.keepS kb (sig_noB s.sl hp) s.gr
theorem SgS.htR (s : SgS w ws wr g n h A B ix seed SLv SL k pv) : Tabs wr := by
  obtain ⟨p0, hp, kb⟩ := s.kB
  exact s.ht.keepG kb (n := ix) rfl s.gr
theorem SgS.hsR (s : SgS w ws wr g n h A B ix seed SLv SL k pv) : OSls wr 0 SLv SL := by
  obtain ⟨p0, hp, kb⟩ := s.kB
  exact OSls.keepM s.hs kb (by decide) (sig_noB s.sl hp) s.gr
theorem SgS.kAR (s : SgS w ws wr g n h A B ix seed SLv SL k pv) : Blk wr A 61 #[.int .i64 0, .slice none 0 0, .slice none 0 0] :=
  s.kA.grown s.gr (by intro e; have := s.hA; simp at e; omega)
theorem SgS.gwR (s : SgS w ws wr g n h A B ix seed SLv SL k pv) : w.grownBy wr (some g) :=
  only_below0 s.gw ((Below.refl _ _).grown s.gr s.gw.size (fun k hk => by cases hk; exact Nat.le_trans s.wA (Nat.le_of_lt s.hA)))
/-- Behind memory that is new. -/
theorem SgS.below (s : SgS w ws wr g n h A B ix seed SLv SL k pv) {w2 : World} (hb : Below wr.heap.size wr w2) : SgS w ws w2 g n h A B ix seed SLv SL k pv :=
  { s with gr := only_below s.gr hb, kR := s.kR.belowS hb, hO := OSls.below s.hO hb }
/-- Behind the first hash. -/
theorem SgS.first (s : SgS w ws wr g n h A B ix seed SLv SL 0 pv) {w2 : World} (m : MKB w2 g n h seed) (hg : wr.grownBy w2 (some g)) : SgS w w2 w2 g n h A B ix seed SLv SL 0 pv := by
  obtain ⟨sv, d, lv, q1, q2, _, kg⟩ := s.mkR.blk
  have hnb := keys_noB (n := n) (h := h) (d := d) (m := 0) q1 q2
  have neA : some A ≠ some g := fun e => Blk.ne_ s.kAR kg (by decide) (by simpa using e)
  have neB : some B ≠ some g := fun e => Blk.ne_ s.kR kg (by decide) (by simpa using e)
  have kR := s.kR.grown hg neB
  have e := s.h0 rfl
  exact ⟨.inr m, s.htR.keepG kg (n := n) rfl hg, OSls.keepM s.hsR kg (by decide) hnb hg, s.kAR.grown hg neA, ⟨pv, by rw [e]; exact ⟨_, _, _, rfl⟩, kR⟩, s.gwR.trans hg, World.grownBy.refl _ _, kR, by rw [e]; exact OSls.nil _ _, s.h0, s.sl, s.hA, s.wA⟩
/-- Behind an append and a store. -/
theorem SgS.next (s : SgS w ws wr g n h A B ix seed SLv SL k pv) (m : MKB ws g n h seed) {w5 : World} {v5 : Value} (hO : OSls w5 ws.heap.size v5 (pathI n seed h ix k ++ [(lvI n seed h k).getD (twin (ix / 2 ^ k)) []])) (hb : Below ws.heap.size wr w5) (hg : wr.grownBy w5 pv.ownBlock) : SgS w ws (w5.setCell ⟨B, 2, none⟩ v5) g n h A B ix seed SLv SL (k + 1) v5 := by
  obtain ⟨p0, hp, kb⟩ := s.kB
  obtain ⟨vs, r1, _⟩ := s.hO
  have k5 : Blk w5 B 61 #[.int .i64 ix, SLv, pv] := s.kR.grown hg (Ne.symm (own_blk_ne r1.1 s.kR (by decide)))
  have hpv : isSlV pv := by obtain ⟨a, c, e⟩ := s.hO.val; exact ⟨a, _, c, e⟩
  exact ⟨.inr m, s.ht, s.hs, s.kA, ⟨p0, hp, kb⟩, s.gw, only_setCell (p := ⟨B, 2, none⟩) (only_below0 s.gr hb) (Or.inl rfl) _, k5.set_ 2 _, by
    rw [pathI_succ]; exact OSls.keepM hO k5 (by decide) (sig_noB s.sl hpv) (set_onlyG w5 B 2 v5), fun e => absurd e (by omega), s.sl, s.hA, s.wA⟩
end

set_option maxRecDepth 100000 in
set_option maxHeartbeats 2000000 in
theorem at_built (n h : Nat) (g l p : Nat) (seed : List Int) (w : World) (hn : n ≤ 32) (hh : h ≤ 8) (hk : MKB w g n h seed) (hl : l ≤ h) (hp : p < 2 ^ (h - l)) :
    Calls Tryd.prog 83 #[.pointer (some ⟨g, 0, none⟩), .int .i64 l, .int .i64 p] w fun e w' => ∃ x, e = .returned x ∧ Sl w' x (((lvI n seed h l).getD p []).map (Value.int .u8)) ∧ Below w.heap.size w w' := by
  have hmf : ∀ (fn : Fn) (first cap : Array Value) (w : World), (Instr.makeFunc fn first cap).run Tryd.prog w = .ok (.func fn first cap) w := fun _ _ _ _ => rfl
  have hnot : ∀ (x : Bool) (w : World), (Op.unary .not (.bool x)).run Tryd.prog w = .ok (.bool (!x)) w := fun _ _ => rfl
  obtain ⟨sv, lv, h1, h2, h3⟩ := hk
  have c3 : w.cell? ⟨g, 3, none⟩ = some (.int .u32 1) := h2.cell 3
  have HO : Calls Tryd.prog 124 #[.pointer (some ⟨g, 3, none⟩), .func (.func 125) #[.pointer (some ⟨g, 0, none⟩)] #[]] w fun e w' => e = .returned (.tuple #[]) ∧ w = w' := by
    have hl := run_call_load (P := Tryd.prog) Tryd.func161 (by kernel_rfl) (by kernel_rfl) (by kernel_rfl) .u32 (by kernel_rfl) c3
    clear h1 h2 h3
    go_enter Tryd.func124, Tryd.ntmps124
    go_wp2
    go_end0
    exact ⟨rfl, rfl⟩
  have HO := Lib.hid HO
  obtain ⟨va, vc, rfl⟩ := h3.val
  rw [lvsI_len] at *
  obtain ⟨b, off, u, rfl, hb, hcu, hu⟩ := h3.at (k := l) (lvsI_get n seed h (h + 1) l (by omega))
  obtain ⟨ua, uc, rfl⟩ := hu.val
  have HLN := Lib.hid (lvI_len n seed h l)
  have HSH := Lib.hid (lvI_short n seed h l)
  obtain ⟨b2, off2, u2, rfl, hb2, hcu2, hu2⟩ := OSls.get hu (k := p) (by rw [HLN.out]; exact hp)
  have hxl := HSH.out _ (getD_mem (l := lvI n seed h l) (k := p) (by rw [HLN.out]; exact hp))
  rw [HLN.out] at *
  generalize hX : (lvI (n : Int) seed h l).getD p [] = X at *
  have HX := Lib.hid hX
  clear hX
  generalize 2 ^ (h - l) = M at *
  have c6 : w.cell? ⟨g, 6, none⟩ = some (.slice (some ⟨b, off, none⟩) (h + 1) vc) := h2.cell 6
  have hlI : (l : Int) < (h : Int) + 1 := by omega
  have hlN : l < h + 1 := by omega
  have hpI : (p : Int) < (M : Int) := by omega
  obtain ⟨xa, xn, xc, rfl⟩ := hu2.val
  have HC := Lib.hid (sclone_any (.slice xa xn xc) X w (by omega) hu2)
  clear h1 h2 h3 hu hu2 hxl
  go_enter Tryd.func83, Tryd.ntmps83
  go_wp2_with fail
  refine HO.out.mono ?_
  rintro e w2 ⟨rfl, rfl⟩
  go_wp2_with fail
  refine HC.out.mono ?_
  rintro e w3 ⟨x, rfl, hx, hb3⟩
  go_wp2
  go_ret
  exact ⟨x, rfl, by first | exact hx | (rw [HX.out]; exact hx), hb3⟩

/-- A hash is told while a signature is made. -/
theorem SgS.hash {w ws wr : World} {g n h A B ix : Nat} {seed : List Int} {SLv : Value} {SL : List (List Int)} {k : Nat} {pv : Value} (s : SgS w ws wr g n h A B ix seed SLv SL k pv) (hn : n ≤ 32) (hh : h ≤ 8) (hB : IsB seed) (p : Nat) (hk : k < h) (hp : p < 2 ^ (h - k)) :
    Calls Tryd.prog 83 #[.pointer (some ⟨g, 0, none⟩), .int .i64 k, .int .i64 p] wr fun e w2 => ∃ x ws2, e = .returned x ∧ Sl w2 x (((lvI n seed h k).getD p []).map (Value.int .u8)) ∧ SgS w ws2 w2 g n h A B ix seed SLv SL k pv ∧ MKB ws2 g n h seed ∧ wr.heap.size ≤ w2.heap.size := by
  by_cases h0 : k = 0
  · subst h0
    refine (at_any n h g 0 p seed wr hn hh hB s.mkR s.htR (by omega) hp).mono ?_
    rintro e w2 ⟨x, rfl, hx, hm, hg⟩
    exact ⟨x, w2, rfl, hx, s.first hm hg, hm, hg.size⟩
  · refine (at_built n h g k p seed wr hn hh (s.mkBR h0) (by omega) hp).mono ?_
    rintro e w2 ⟨x, rfl, hx, hb⟩
    refine ⟨x, ws, rfl, hx, s.below hb, ?_, hb.size⟩
    rcases s.mm with ⟨e, _⟩ | m
    · exact absurd e h0
    · exact m
theorem SgS.blk5 {w ws wr w5 : World} {g n h A B ix : Nat} {seed : List Int} {SLv : Value} {SL : List (List Int)} {k : Nat} {pv : Value} (s : SgS w ws wr g n h A B ix seed SLv SL k pv) (hg : wr.grownBy w5 pv.ownBlock) : Blk w5 B 61 #[.int .i64 ix, SLv, pv] := by
  obtain ⟨vs, r1, _⟩ := s.hO
  exact s.kR.grown hg (Ne.symm (own_blk_ne r1.1 s.kR (by decide)))
theorem SgS.hbase {w ws wr : World} {g n h A B ix : Nat} {seed : List Int} {SLv : Value} {SL : List (List Int)} {k : Nat} {pv : Value} (s : SgS w ws wr g n h A B ix seed SLv SL k pv) : ws.heap.size ≤ wr.heap.size := s.gr.size
/-- Where the signature is told. -/
theorem SgS.told {w ws wr : World} {g n h A B ix : Nat} {seed : List Int} {SLv : Value} {SL : List (List Int)} {k : Nat} {pv : Value} (s : SgS w ws wr g n h A B ix seed SLv SL k pv) : OSls (((wr.setCell ⟨A, 0, none⟩ (.int .i64 ix)).setCell ⟨A, 1, none⟩ SLv).setCell ⟨A, 2, none⟩ pv) 0 SLv SL ∧ OSls (((wr.setCell ⟨A, 0, none⟩ (.int .i64 ix)).setCell ⟨A, 1, none⟩ SLv).setCell ⟨A, 2, none⟩ pv) 0 pv (pathI n seed h ix k) ∧ MK (((wr.setCell ⟨A, 0, none⟩ (.int .i64 ix)).setCell ⟨A, 1, none⟩ SLv).setCell ⟨A, 2, none⟩ pv) g n h seed ∧ w.grownBy (((wr.setCell ⟨A, 0, none⟩ (.int .i64 ix)).setCell ⟨A, 1, none⟩ SLv).setCell ⟨A, 2, none⟩ pv) (some g) := by
  have hgA : wr.grownBy (((wr.setCell ⟨A, 0, none⟩ (.int .i64 ix)).setCell ⟨A, 1, none⟩ SLv).setCell ⟨A, 2, none⟩ pv) (some A) := only_setCell (p := ⟨A, 2, none⟩) (only_setCell (p := ⟨A, 1, none⟩) (set_onlyG wr A 0 _) (Or.inl rfl) _) (Or.inl rfl) _
  have hnb := sig_noB (i := 0) (sv := .slice none 0 0) (lv := .slice none 0 0) ⟨_, _, _, rfl⟩ ⟨_, _, _, rfl⟩
  have hbw : Below w.heap.size wr (((wr.setCell ⟨A, 0, none⟩ (.int .i64 ix)).setCell ⟨A, 1, none⟩ SLv).setCell ⟨A, 2, none⟩ pv) := (Below.refl _ _).grown hgA s.gwR.size (fun k hk => by cases hk; exact s.wA)
  exact ⟨OSls.keepM s.hsR s.kAR (by decide) hnb hgA, OSls.base (OSls.keepM s.hO s.kAR (by decide) hnb hgA) (Nat.zero_le _), s.mkR.keepS s.kAR hnb hgA, only_below0 s.gwR hbw⟩

set_option maxRecDepth 100000 in
set_option maxHeartbeats 4000000 in
/-- Sign, where the number and the digest may be. -/
theorem msign_ok (n h g ix : Nat) (seed : List Int) (vd : Value) (dg : List Int) (w : World) (hn0 : 1 ≤ n) (hn : n ≤ 32) (hh : h ≤ 8) (hsl : seed.length ≤ 64) (hB : IsB seed) (hk : MK w g n h seed) (ht : Tabs w) (hi : ix < 2 ^ h) (hBd : IsB dg) (hd : Sl w vd (dg.map (Value.int .u8))) (hdl : dg.length = n) :
    Calls Tryd.prog 37 #[.pointer (some ⟨g, 0, none⟩), .int .i64 ix, vd] w fun e w' => ∃ cv pv, e = .returned (.tuple #[.agg #[.int .i64 ix, cv, pv], .int .i64 0]) ∧ OSls w' 0 cv (signL n seed ix dg) ∧ OSls w' 0 pv (pathI n seed h ix h) ∧ MK w' g n h seed ∧ w.grownBy w' (some g) := by
  have hi8 : ix < 256 := Nat.lt_of_lt_of_le hi (Nat.le_trans (Nat.pow_le_pow_right (by omega) hh) (by decide))
  have hbA : Below w.heap.size w (w.alloc (.cells #[.int .i64 0, .slice none 0 0, .slice none 0 0] 61)) := (Below.refl _ _).alloc (Nat.le_refl _) _
  have kA := Blk.new w 61 #[.int .i64 0, .slice none 0 0, .slice none 0 0]
  have hkA := hk.below hbA
  have HN := Lib.hid (mnone_any g n h seed _ hn0 hkA)
  have htA := ht.below hbA
  have hdA := hd.below hbA (Nat.le_refl _)
  obtain ⟨dva, dvn, dvc, rfl⟩ := hd.val
  clear hk ht hd
  go_enter Tryd.func37, Tryd.ntmps37
  go_wp2_with fail
  generalize (w.alloc (.cells #[.int .i64 0, .slice none 0 0, .slice none 0 0] 61)) = w1 at *
  refine HN.out.mono ?_
  rintro e w2 ⟨rfl, rfl⟩
  obtain ⟨sv, d, lv, hsv, hlv, hsd, k⟩ := hkA.blk
  have c0 : w1.cell? ⟨g, 0, none⟩ = some (.int .i64 n) := k.cell 0
  have c1 : w1.cell? ⟨g, 1, none⟩ = some (.int .i64 h) := k.cell 1
  have c2 : w1.cell? ⟨g, 2, none⟩ = some sv := k.cell 2
  have hx2 : ¬ (ix : Int) < 0 := by omega
  have hx3 : (ix : Int) / 2 ^ h ≤ 0 := by
    have hi' : (ix : Int) < 2 ^ h := by have := Int.ofNat_lt.2 hi; simpa using this
    rw [Int.ediv_eq_zero_of_lt (by omega) hi']; omega
  obtain ⟨sa, sn, sc, rfl⟩ := hsv
  have HSG := Lib.hid (fun w' (q : Below w1.heap.size w1 w') => sign_own n (.slice sa sn sc) seed ix (.slice dva dvn dvc) dg w' (by omega) (by omega) hB (hsd.below q (Nat.le_refl _)) hBd (hdA.below q (Nat.le_refl _)) (htA.below q))
  rw [show signE (n : Int) seed.length ix dg.length = 0 from by unfold signE; rw [if_pos ⟨by unfold canB; exact decide_eq_true (by omega), by omega⟩]] at HSG
  have HKR := Lib.hid (fun w' (q : Below w1.heap.size w1 w') => show w'.cell? ⟨g, 0, none⟩ = some (.int .i64 n) ∧ w'.cell? ⟨g, 2, none⟩ = some (.slice sa sn sc) from ⟨(k.belowS q).cell 0, (k.belowS q).cell 2⟩)
  have hG := Lib.hid (HKR.out _ (Below.refl _ _))
  have HKA := Lib.hid hkA
  have HTA := Lib.hid htA
  have HBA := Lib.hid hbA
  have HAB := Lib.hid kA
  have HLIM := Lib.hid hi
  clear hsd htA hdA hkA hbA k kA hlv c0 c2 hi
  have HSI := Lib.hid (signL_isB n seed ix dg)
  generalize hSL : signL (n : Int) seed ix dg = SL at *
  have HSL := Lib.hid hSL
  clear hSL
  go_wp2
  go_region_held3 (fun w' => w'.cell? ⟨g, 0, none⟩ = some (.int .i64 n) ∧ w'.cell? ⟨g, 2, none⟩ = some (.slice sa sn sc)) (exact hG.out) (first | (go_at_call 82; refine (HSG.out _ (by first | exact Below.refl _ _ | exact (Below.refl _ _).drew)).mono ?_; rintro e w5 ⟨x5, rfl, hx5, hb5⟩; have hb5 : Below w1.heap.size w1 w5 := ⟨hb5.os, hb5.tape, hb5.output, hb5.size, hb5.block⟩; have hG := Lib.hid (HKR.out _ hb5)))
  obtain ⟨ca, cc, rfl⟩ := hx5.val
  have hbB : Below w5.heap.size w5 (w5.alloc (.cells #[.int .i64 ix, .slice ca SL.length cc, .slice none 0 0] 61)) := (Below.refl _ _).alloc (Nat.le_refl _) _
  have kB := Blk.new w5 61 #[.int .i64 ix, .slice ca SL.length cc, .slice none 0 0]
  have hkB := HKA.out.below (below_trans2 hb5 hbB)
  have htB := HTA.out.below (below_trans2 hb5 hbB)
  have hxB := hx5.below hbB
  have hgB := only_of_below (HBA.out.trans ((below_trans2 hb5 hbB).mono HBA.out.size)) (some g)
  have kA := HAB.out.belowS (below_trans2 hb5 hbB)
  have hgne : g < w1.heap.size := by obtain ⟨_, _, _, _, _, _, k⟩ := HKA.out.blk; exact k.lt
  have hB5 : w1.heap.size ≤ w5.heap.size := hb5.size
  clear hx5 hb5 hbB hG HSG HKR
  have hAB : w.heap.size < w5.heap.size := Nat.lt_of_lt_of_le HAB.out.lt hB5
  have HS0 := Lib.hid (show SgS w (w5.alloc (.cells #[.int .i64 ix, .slice ca SL.length cc, .slice none 0 0] 61)) (w5.alloc (.cells #[.int .i64 ix, .slice ca SL.length cc, .slice none 0 0] 61)) g n h w.heap.size w5.heap.size ix seed (.slice ca SL.length cc) SL 0 (.slice none 0 0) from ⟨.inl ⟨rfl, hkB⟩, htB, hxB, kA, ⟨_, ⟨_, _, _, rfl⟩, kB⟩, hgB, World.grownBy.refl _ _, kB, OSls.nil _ _, fun _ => rfl, ⟨_, _, _, rfl⟩, hAB, Nat.le_refl _⟩)
  clear hkB htB hxB hgB kA kB
  go_wp2
  generalize (w5.alloc (.cells #[.int .i64 ix, .slice ca SL.length cc, .slice none 0 0] 61)) = wx at *
  go_loopw [11, 12] (fun l p wr => ∃ (k : Nat) (pv : Value) (ws : World), l = .int .i64 k ∧ k ≤ h ∧ p = .int .i64 ((ix / 2 ^ k : Nat) : Int) ∧ SgS w ws wr g n h w.heap.size w5.heap.size ix seed (.slice ca SL.length cc) SL k pv) (fun l _ _ => h - (intOf l).toNat)
  case atStart => exact ⟨0, _, wx, rfl, by omega, by simp, HS0.out⟩
  case round =>
    clear HS0
    obtain ⟨k, pv, ws, rfl, hk, rfl, hS⟩ := hrel
    obtain ⟨sv1, d1, lv1, _, _, _, kg⟩ := hS.mkR.blk
    have c1 : wr.cell? ⟨g, 1, none⟩ = some (.int .i64 h) := kg.cell 1
    obtain ⟨pa, pc, rfl⟩ := hS.hO.val
    rw [pathI_len] at hS
    have q2 : wr.cell? ⟨w5.heap.size, 2, none⟩ = some (.slice pa k pc) := hS.kR.cell 2
    clear kg
    by_cases hlt : k < h
    · have hkI : (k : Int) < (h : Int) := by omega
      have HPN := Lib.hid (show ix / 2 ^ (k + 1) = ix / 2 ^ k / 2 by rw [Nat.pow_succ, Nat.div_div_eq_div_mul])
      have hPb : ix / 2 ^ k ≤ ix := Nat.div_le_self _ _
      have HTL := Lib.hid (twin_lt HLIM.out hlt)
      have HX := Lib.hid (fun w' (q : Below wr.heap.size wr w') => (hS.below q).hash hn hh hB (twin (ix / 2 ^ k)) hlt HTL.out)
      have HLN := Lib.hid (show (pathI n seed h ix k).length + 1 ≤ 5000000000000 by rw [pathI_len]; omega)
      have HNX := Lib.hid (fun (wa wb : World) (pv v5 : Value) (wsa : World) (s : SgS w wsa wa g n h w.heap.size w5.heap.size ix seed (.slice ca SL.length cc) SL k pv) (m : MKB wsa g n h seed) (hO : OSls wb wsa.heap.size v5 (pathI n seed h ix k ++ [(lvI n seed h k).getD (twin (ix / 2 ^ k)) []])) (hb : Below wsa.heap.size wa wb) (hg : wa.grownBy wb pv.ownBlock) => s.next m hO hb hg)
      generalize (lvI (n : Int) seed h k).getD (twin (ix / 2 ^ k)) [] = X at *
      generalize hPI : pathI (n : Int) seed h ix k = PI at *
      have HPI := Lib.hid hPI
      generalize ix / 2 ^ k = P at *
      have hxor : bits BinOp.xor IntKind.i64 (P : Int) 1 = ((twin P : Nat) : Int) := xor_one _ (by omega)
      have hqd : ((P : Int)).tdiv 2 = ((P / 2 : Nat) : Int) := by rw [Int.tdiv_eq_ediv_of_nonneg (by omega)]; omega
      have HWP := Lib.hid (show wrap64 ((P : Int) / 2) = ((P / 2 : Nat) : Int) by unfold wrap64; omega)
      generalize twin P = tw at *
      clear hPb hS hPI
      go_wp2
      go_region_law (first
        | (refine step_append_textM rfl (.tmp 63) (.tmp 69) rfl ws2.heap.size _ PI rfl hO3 w2.heap.size 1 rfl (.slice xa xn xc) hc2 X hx2 HLN.out (Nat.le_trans hS2.hbase hbA.size) ?_; intro l5 w6 hO5 hb5 hg5; obtain ⟨a5, c5, rfl⟩ := hO5.val; have k5 := hS3.blk5 hg5; have q5 : w6.cell? ⟨w5.heap.size, 2, none⟩ = some (.slice pa k pc) := k5.cell 2; have f5 : w6.frozen? ⟨w5.heap.size, 2, none⟩ = false := k5.frozen 2)
        | (go_simp; go_at_call 83; refine (HX.out _ (by first | exact Below.refl _ _ | exact (Below.refl _ _).drew)).mono ?_; rintro e w2 ⟨x1, ws2, rfl, hx1, hS2, hm2, hsz2⟩; obtain ⟨xa, xn, xc, rfl⟩ := hx1.val; have q7 : w2.cell? ⟨w5.heap.size, 2, none⟩ = some (.slice pa k pc) := hS2.kR.cell 2; have hbA : Below w2.heap.size w2 (w2.alloc (.cells #[.slice xa xn xc] 22)) := (Below.refl _ _).alloc (Nat.le_refl _) _; have hS3 := hS2.below hbA; have q8 : (w2.alloc (.cells #[.slice xa xn xc] 22)).cell? ⟨w5.heap.size, 2, none⟩ = some (.slice pa k pc) := hS3.kR.cell 2; have hO3 := hS3.hO; rw [HPI.out] at hO3; have hx2 := hx1.below hbA (Nat.le_refl _); have hc2 := (Blk.new w2 22 #[.slice xa xn xc]).cell 0))
      all_goals
        have hS6 := HNX.out _ _ _ _ _ hS3 hm2 hO5 hb5 hg5
        rw [List.length_append, List.length_singleton] at hS6
        clear hO5 hb5 hg5 hS3 hS2 hO3
        go_wp2
        exact ⟨⟨k + 1, _, ws2, by go_num, by omega, by rw [HPN.out, HWP.out], hS6⟩, by simp [intOf]; omega⟩
    · obtain rfl : k = h := by omega
      have hkI : ¬ (k : Int) < (k : Int) := by omega
      obtain ⟨z0, z1, z2⟩ := rec3 hS.kR
      have kAR := hS.kAR
      obtain ⟨y0, y1, y2⟩ := rec3 kAR
      have y3 := kAR.frozen 0
      have y4 := kAR.frozen 1
      have y5 := kAR.frozen 2
      have HS := Lib.hid hS
      clear hS kAR
      go_wp2
      exact bodyPost_ret (v := .tuple #[.agg #[.int .i64 ix, .slice ca SL.length cc, .slice pa k pc], .int .i64 0]) (by rw [results_cell_tmp rfl]; go_simp) rfl ⟨_, _, rfl, by rw [HSL.out]; exact HS.out.told.1, HS.out.told.2⟩

end Go.Proofs.YtililoojjfcfgaaDoor

namespace Go.Proofs.YtililoojjfcfgaaDoor
open Go.RowKit
set_option linter.unusedVariables false

theorem hashT_size (n : Nat) (hn : n ≤ 32) (tag : Int) (pss : List (List Int)) (h : codeT tag pss = 0) : (hashT n tag pss).length = n := by
  unfold hashT; rw [if_pos h, cutI_len]; omega
theorem codeT_ok {tag : Int} {pss : List (List Int)} (h0 : 0 ≤ tag) (h1 : tag ≤ 255) (h : ∀ p ∈ pss, p.length ≤ 65535) : codeT tag pss = 0 := by
  unfold codeT
  rw [if_neg (by omega), if_neg (fun ⟨p, hp, hl⟩ => by have := h p hp; omega)]
theorem secI_size (n : Nat) (hn : n ≤ 32) (seed : List Int) (idx i : Int) (h : canB n seed.length idx = true) : (secI n seed idx i).length = n := by
  unfold secI; rw [if_pos h]
  refine hashT_size n hn _ _ (codeT_ok (by omega) (by omega) fun p hp => ?_)
  simp only [List.mem_cons, List.not_mem_nil, or_false] at hp
  unfold canB at h
  have := of_decide_eq_true h
  rcases hp with rfl | rfl | rfl
  · omega
  · rw [numI_len]; omega
  · rw [numI_len]; omega
theorem chI_size (n : Nat) (hn : n ≤ 32) (idx i f : Int) (x : List Int) (h : x.length = n) : ∀ k, (chI n idx i f x k).length = n
  | 0 => h
  | k + 1 => hashT_size n hn _ _ (codeT_ok (by omega) (by omega) fun p hp => by
    simp only [List.mem_cons, List.not_mem_nil, or_false] at hp
    have := chI_size n hn idx i f x h k
    rcases hp with rfl | rfl | rfl | rfl
    · rw [numI_len]; omega
    · rw [numI_len]; omega
    · rw [numI_len]; omega
    · omega)

theorem sgU_at (size : Int) (seed : List Int) (idx : Int) (dd : List Int) (k i : Nat) (h : i < k) : (sgU size seed idx dd k).getD i [] = chI size idx i 0 (secI size seed idx i) (dd.getD i 0).toNat := by
  unfold sgU
  rw [List.getD_eq_getElem?_getD, List.getElem?_map, List.getElem?_range h]; rfl

theorem back_all (n : Nat) (h1 : 1 ≤ n) (hn : n ≤ 32) (seed : List Int) (idx : Int) (dg : List Int) (hs : seed.length ≤ 64) (hi0 : 0 ≤ idx) (hi1 : idx < 256) (hd : dg.length = n) :
    signE n seed.length idx dg.length = 0 ∧ keyE n seed.length idx = 0 ∧ signL n seed idx dg = sgU n seed idx (digitsOf dg) (4 * n + 5) ∧ recE n (sgU n seed idx (digitsOf dg) (4 * n + 5)) idx dg.length = 0 ∧ recL n (sgU n seed idx (digitsOf dg) (4 * n + 5)) idx dg = keyL n seed idx ∧ (keyL n seed idx).length = n := by
  have hc : canB n seed.length idx = true := decide_eq_true (by omega)
  have hc0 : canB n 0 idx = true := decide_eq_true (by omega)
  have hall : ¬ ∃ p ∈ sgU n seed idx (digitsOf dg) (4 * n + 5), ¬ (p.length : Int) = (n : Int) := by
    rintro ⟨p, hp, hne⟩
    unfold sgU at hp
    obtain ⟨i, _, rfl⟩ := List.mem_map.1 hp
    rw [chI_size n hn _ _ _ _ (secI_size n hn seed idx i hc)] at hne
    exact hne rfl
  have hrb : recB n (sgU n seed idx (digitsOf dg) (4 * n + 5)) idx dg.length = true := by
    unfold recB
    rw [hc0, decide_eq_true (show (dg.length : Int) = n by omega), decide_eq_true (show ((sgU n seed idx (digitsOf dg) (4 * n + 5)).length : Int) = 4 * (n : Int) + 5 by rw [sgU_len]; omega), decide_eq_false hall]; rfl
  refine ⟨by unfold signE; rw [if_pos ⟨hc, by omega⟩], by unfold keyE; rw [if_pos hc], by unfold signL; rw [if_pos ⟨hc, by omega⟩, hd], by unfold recE; rw [if_pos hrb], ?_, ?_⟩
  · unfold recL keyL
    rw [if_pos hrb, if_pos hc, Int.toNat_natCast]
    congr 3
    refine catI_congr _ fun i hi => ?_
    have hdm := digits_mem (a := dg) (by omega) i
    unfold recK endK
    rw [getD_take (by omega) hall, sgU_at _ _ _ _ _ _ hi]
    obtain ⟨d, hd'⟩ : ∃ d : Nat, (digitsOf dg).getD i 0 = d := ⟨((digitsOf dg).getD i 0).toNat, by omega⟩
    rw [hd', Int.toNat_natCast]
    have h3 : 3 = d + (3 - d) := by omega
    rw [show chI (n : Int) idx i 0 (secI n seed idx i) 3 = chI (n : Int) idx i 0 (secI n seed idx i) (d + (3 - d)) by rw [← h3], chI_add, Int.zero_add]
  · unfold keyL
    rw [if_pos hc]
    refine hashT_size n hn _ _ (codeT_ok (by omega) (by omega) fun p hp => ?_)
    simp only [List.mem_cons, List.not_mem_nil, or_false] at hp
    have := catI_len (endK_len n seed idx) (4 * (n : Int).toNat + 5)
    rw [Int.toNat_natCast] at *
    rcases hp with rfl | rfl
    · rw [numI_len]; omega
    · omega

theorem getD_map_range (f : Nat → List Int) (n k : Nat) (h : k < n) : ((List.range n).map f).getD k [] = f k := by
  simp [List.getD_eq_getElem?_getD, h]
/-- On the way up the k-th hash is the k-th level's. -/
theorem climb_level (n : Nat) (seed : List Int) (h ix : Nat) (x : List Int) (hx : x = keyL n seed ix) (hi : ix < 2 ^ h) : ∀ k, k ≤ h → climbI n ix x (pathI n seed h ix h) k = (lvI n seed h k).getD (ix / 2 ^ k) []
  | 0, _ => by
    rw [climbI, lvI, botI, getD_map_range _ _ _ (by simpa using hi), hx]; simp
  | k + 1, hk => by
    have ih := climb_level n seed h ix x hx hi k (by omega)
    have hp : (pathI n seed h ix h).getD k [] = (lvI n seed h k).getD (twin (ix / 2 ^ k)) [] := by
      unfold pathI; rw [getD_map_range _ _ _ (by omega)]
    have hq : ix / 2 ^ (k + 1) = ix / 2 ^ k / 2 := by rw [Nat.pow_succ, Nat.div_div_eq_div_mul]
    have hlt := half_lt_pow hi hk
    rw [climbI, ih, hp, lvI, upI, getD_map_range _ _ _ hlt, hq, upA]
    generalize lvI (n : Int) seed h k = L
    generalize ix / 2 ^ k = P
    by_cases ho : P % 2 = 1
    · rw [if_pos ho, show 2 * (P / 2) + 1 = P by omega, show 2 * (P / 2) = twin P by unfold twin; rw [if_pos ho]; omega]; rfl
    · rw [if_neg ho, show 2 * (P / 2) + 1 = twin P by unfold twin; rw [if_neg ho]; omega, show 2 * (P / 2) = P by omega]; rfl
/-- What was signed is verified, under the root alone. -/
theorem signed_ok (n : Nat) (h1 : 1 ≤ n) (hn : n ≤ 32) (h : Nat) (hh : h ≤ 8) (seed : List Int) (hs : seed.length ≤ 64) (ix : Nat) (hi : ix < 2 ^ h) (dg : List Int) (hd : dg.length = n) (pub : List Int) :
    verB n pub h dg ix (signL n seed ix dg) (pathI n seed h ix h) = decide ((lvI n seed h h).getD 0 [] = pub) := by
  have hi8 : ix < 256 := Nat.lt_of_lt_of_le hi (Nat.le_trans (Nat.pow_le_pow_right (by omega) hh) (by decide))
  obtain ⟨b1, b2, b3, b4, b5, b6⟩ := back_all n h1 hn seed ix dg hs (by omega) (by omega) hd
  have hok : verOk n h ix (signL n seed ix dg) (pathI n seed h ix h) dg.length := by
    refine ⟨by unfold mcanB; exact decide_eq_true (by omega), by omega, ?_, by rw [pathI_len], ?_, by rw [b3]; exact b4⟩
    · rw [Int.toNat_natCast]; have := Int.ofNat_lt.2 hi; simpa using this
    · rintro ⟨p, hp, hne⟩
      simp only [pathI, List.mem_map, List.mem_range] at hp
      obtain ⟨l, hl, rfl⟩ := hp
      refine hne ?_
      rw [lvI_full n seed h h1 hn hs hh l _ (getD_mem (by rw [lvI_len]; exact twin_lt hi hl))]
  unfold verB
  rw [if_pos hok, b3, b5, Int.toNat_natCast, pathI_len, climb_level n seed h ix _ rfl hi h (Nat.le_refl _), Nat.div_eq_of_lt hi]

end Go.Proofs.YtililoojjfcfgaaDoor

namespace Go.Proofs.YtililoojjfcfgaaDoor
open Go.RowKit
set_option linter.unusedVariables false

/-- What stands behind Sign. -/
structure SB (W w : World) (g n h : Nat) (seed : List Int) (dv : Value) (dg : List Int) (cv : Value) (SL : List (List Int)) (pv : Value) (path : List (List Int)) (B : Nat) (ix : Nat) : Prop where
  mm : MK w g n h seed
  hd : Sl w dv (dg.map (Value.int .u8))
  hc : OSls w 0 cv SL
  hp : OSls w 0 pv path
  kB : Blk w B 61 #[.int .i64 ix, cv, pv]
  hw : Below W.heap.size W w
  hg : W.heap.size ≤ g
section
variable {W w w2 : World} {g n h B ix : Nat} {seed dg : List Int} {dv cv pv : Value} {SL path : List (List Int)}
theorem SB.below (s : SB W w g n h seed dv dg cv SL pv path B ix) (hb : Below w.heap.size w w2) : SB W w2 g n h seed dv dg cv SL pv path B ix :=
  ⟨s.mm.below hb, s.hd.below hb (Nat.le_refl _), OSls.below s.hc hb, OSls.below s.hp hb, s.kB.belowS hb, s.hw.trans (hb.mono s.hw.size), s.hg⟩
theorem SB.keys (s : SB W w g n h seed dv dg cv SL pv path B ix) (m : MKB w2 g n h seed) (hg : w.grownBy w2 (some g)) : SB W w2 g n h seed dv dg cv SL pv path B ix := by
  obtain ⟨sv, d, lv, q1, q2, _, kg⟩ := s.mm.blk
  have hnb := keys_noB (n := n) (h := h) (d := d) (m := 0) q1 q2
  have neB : some B ≠ some g := fun e => Blk.ne_ s.kB kg (by decide) (by simpa using e)
  exact ⟨.inl m, s.hd.keepG kg hnb hg, OSls.keepM s.hc kg (by decide) hnb hg, OSls.keepM s.hp kg (by decide) hnb hg, s.kB.grown hg neB, below_of_only s.hw hg s.hg s.hw.size, s.hg⟩
theorem SB.pub (s : SB W w g n h seed dv dg cv SL pv path B ix) (hn0 : 1 ≤ n) (hn : n ≤ 32) (hh : h ≤ 8) (hB : IsB seed) (ht : Tabs W) :
    Calls Tryd.prog 38 #[.pointer (some ⟨g, 0, none⟩)] w fun e w' => ∃ x, e = .returned x ∧ Sl w' x (((lvI n seed h h).getD 0 []).map (Value.int .u8)) ∧ SB W w' g n h seed dv dg cv SL pv path B ix ∧ w.grownBy w' (some g) := by
  refine (public_any n h g seed w hn0 hn hh hB s.mm (ht.below s.hw)).mono ?_
  rintro e w2 ⟨x, rfl, hx, hm, hg⟩
  exact ⟨x, rfl, hx, s.keys hm hg, hg⟩
theorem SB.sig (s : SB W w g n h seed dv dg cv SL pv path B ix) : SigV w (.agg #[.int .i64 ix, cv, pv]) ix SL path := ⟨_, _, rfl, s.hc.sls, s.hp.sls⟩
end

theorem pathI_isB (n : Int) (seed : List Int) (h ix k : Nat) : ∀ p ∈ pathI n seed h ix k, IsB p := by
  intro p hp
  simp only [pathI, List.mem_map] at hp
  obtain ⟨l, _, rfl⟩ := hp
  generalize hL : lvI n seed h l = L
  have := lvI_isB n seed h l
  rw [hL] at this
  rw [List.getD_eq_getElem?_getD]
  rcases Nat.lt_or_ge (twin (ix / 2 ^ l)) L.length with hk | hk
  · rw [List.getElem?_eq_getElem hk]; exact this _ (List.getElem_mem _)
  · rw [List.getElem?_eq_none hk]; intro x hx; cases hx

set_option maxRecDepth 100000 in
set_option maxHeartbeats 4000000 in
theorem mtsBack_walk (size : Int) (v : Value) (seed0 : List Int) (height index : Int) (vb : Value) (b : List Int) (vo : Value) (other : List Int) (w : World) (ht : Tabs w) (hz0 : -9223372036854775808 ≤ size) (hz1 : size ≤ 9223372036854775807) (hB0 : IsB seed0) (hs0 : Sl w v (seed0.map (Value.int .u8))) (hn0 : seed0.length ≤ 140737488351232)
    (hh0 : -9223372036854775808 ≤ height) (hh1 : height ≤ 9223372036854775807) (hx0 : -9223372036854775808 ≤ index) (hx1 : index ≤ 9223372036854775807) (hBb : IsB b) (hsb : Sl w vb (b.map (Value.int .u8))) (hnb : b.length ≤ 140737488351232) (hBo : IsB other) (hso : Sl w vo (other.map (Value.int .u8))) (hno : other.length ≤ 140737488351232) :
    Calls Tryd.prog 12 #[.int .i64 size, v, .int .i64 height, .int .i64 index, vb, vo] w fun e w' => e = .returned (.bool true) ∧ Below w.heap.size w w' := by
  have h1 := u64_rem size 4 (by omega) (by omega)
  generalize hL : wrap64 ((IntKind.u64.wrap size).tmod 4) = L at h1
  obtain ⟨n, rfl⟩ : ∃ n : Nat, L = n := ⟨L.toNat, by omega⟩
  have h2 := u64_rem height 4 (by omega) (by omega)
  generalize hM : wrap64 ((IntKind.u64.wrap height).tmod 4) = M at h2
  obtain ⟨h, rfl⟩ : ∃ m : Nat, M = m := ⟨M.toNat, by omega⟩
  obtain ⟨H, hH⟩ : ∃ H : Nat, H = 2 ^ h := ⟨_, rfl⟩
  have hH1 : 1 ≤ H ∧ H ≤ 8 := by rw [hH]; exact ⟨Nat.one_le_two_pow, Nat.le_trans (Nat.pow_le_pow_right (by omega) (show h ≤ 3 by omega)) (by decide)⟩
  have hWH : ((2 : Int) ^ h) = (H : Int) := by rw [hH]; simp
  have h3 := u64_rem index (H : Int) (by omega) (by omega)
  generalize hX : wrap64 ((IntKind.u64.wrap index).tmod (H : Int)) = X at h3
  obtain ⟨ix, rfl⟩ : ∃ m : Nat, X = m := ⟨X.toNat, by omega⟩
  have HIX := Lib.hid (show ix < 2 ^ h by rw [← hH]; omega)
  have hW' : IntKind.u64.wrap ((2 : Int) ^ h) = (H : Int) := by rw [hWH, IntKind.wrap_u64]; omega
  have HHH := Lib.hid hH
  have HW' := Lib.hid hW'
  clear hH hWH hW'
  have hmk := fun w1 => run_make_bytes (1 + n) (by omega) w1
  rw [show ((1 + n : Nat) : Int) = 1 + (n : Int) by omega] at hmk
  obtain ⟨va, vc, rfl, hvc, hvm⟩ := hs0.shape
  obtain ⟨ba, bc, rfl, hbc, hbm⟩ := hsb.shape
  obtain ⟨oa, on, oc, rfl⟩ := hso.val
  simp only [List.length_map] at *
  have HNB := Lib.hid hnb
  have HTT := Lib.hid ht
  have HSB := Lib.hid hsb
  have HSO := Lib.hid hso
  clear hnb hno ht hsb hso
  have HCUT : ∃ s : Nat, s ≤ 64 ∧ s ≤ seed0.length ∧ (s = 64 ∧ 64 < seed0.length ∨ s = seed0.length ∧ ¬ 64 < seed0.length) := by
    rcases Nat.lt_or_ge 64 seed0.length with q | q
    · exact ⟨64, by omega, by omega, .inl ⟨rfl, q⟩⟩
    · exact ⟨seed0.length, by omega, by omega, .inr ⟨rfl, by omega⟩⟩
  obtain ⟨s, hs64, hsl, hor⟩ := HCUT
  have hs := hs0.take s (by simpa using hsl)
  rw [← List.map_take] at hs
  have hB := hB0.take s
  have hlen : (seed0.take s).length ≤ 64 := by rw [List.length_take]; omega
  have HLEN := Lib.hid hlen
  have HBB := Lib.hid hB
  have HNW := Lib.hid (mnew_ok (1 + n) h (seed0.take s) (.slice va s vc) w (by omega) (by omega) (by omega) hlen hs)
  rw [show ((1 + n : Nat) : Int) = 1 + (n : Int) by omega] at HNW
  have HPL := Lib.hid (padTo_len (1 + n) b)
  have HB1 := Lib.hid (padTo_isB hBb (1 + n))
  generalize seed0.take s = seed at *
  have hcI : (s : Int) ≤ (vc : Int) := by omega
  rcases hor with ⟨rfl, hor⟩ | ⟨rfl, hor⟩
  all_goals
    have horI := Lib.hid hor
    clear hs hs0 hB0 hB hlen
    first | (have h64 : (64 : Int) < (seed0.length : Int) := by omega) | (have h64 : ¬ (64 : Int) < (seed0.length : Int) := by omega)
    clear hor
    go_enter Tryd.func12, Tryd.ntmps12
    go_wp2_with fail
    first | rw [show (min (seed0.length : Int) 64).toNat = 64 by omega] | rw [show (min (seed0.length : Int) 64).toNat = seed0.length by omega]
    refine HNW.out.mono ?_
    rintro e w2 ⟨g, rfl, hg, hk, hb2⟩
    have hb0 : Below w2.heap.size w2 (w2.alloc (.cells (Array.replicate (1 + n) (Value.int .u8 0)) 5)) := (Below.refl _ _).alloc (Nat.le_refl _) _
    have k0 := Blk.new w2 5 (Array.replicate (1 + n) (Value.int .u8 0))
    have hsb1 := (HSB.out.below hb2 (Nat.le_refl _)).below hb0 (Nat.le_refl _)
    go_wp2_with (with_reducible refine wpList_copy_pad rfl _ _ rfl w2.heap.size (1 + n) (1 + n) rfl (.slice ba b.length bc) b rfl hsb1 k0 w2.heap.size w2 hb0 (Nat.le_refl _) ?_)
    intro w3 kk hk1 hb1
    have hd := Sl.ofBlk hk1.out (1 + n) (by rw [List.length_map, HPL.out]) (by rw [List.length_map, HPL.out]; unfold maxLen; omega)
    have hk3 := hk.below hb1
    have hbw := below_trans2 hb2 hb1
    clear hk1 k0 hb0 hsb1 hk hb2 hb1
    have HSG := Lib.hid (msign_ok (1 + n) h g ix seed _ (padTo (1 + n) b) w3 (by omega) (by omega) (by omega) HLEN.out HBB.out hk3 (HTT.out.below hbw) HIX.out HB1.out hd HPL.out)
    have hW := HW'.out
    have hH0 : ¬ (H : Int) = 0 := by omega
    go_wp2_with fail
    clear hW hH0
    refine HSG.out.mono ?_
    rintro e w4 ⟨cv, pv, rfl, hc4, hp4, hm4, hg4⟩
    obtain ⟨sv1, d1, lv1, q1, q2, _, kg⟩ := hk3.blk
    have hd4 := hd.keepG kg (keys_noB q1 q2) hg4
    have hw4 := below_of_only hbw hg4 hg hbw.size
    obtain ⟨ca, cc, rfl⟩ := hc4.val
    obtain ⟨qa, qc, rfl⟩ := hp4.val
    have HVB := Lib.hid (fun pub => signed_ok (1 + n) (by omega) (by omega) h (by omega) seed HLEN.out ix HIX.out (padTo (1 + n) b) HPL.out pub)
    have HSI := Lib.hid (signL_isB ((1 + n : Nat) : Int) seed ix (padTo (1 + n) b))
    have HPI := Lib.hid (pathI_isB ((1 + n : Nat) : Int) seed h ix h)
    have HRB := Lib.hid (show IsB ((lvI ((1 + n : Nat) : Int) seed h h).getD 0 []) from lvI_isB _ _ _ _ _ (getD_mem (by rw [lvI_len]; exact Nat.two_pow_pos _)))
    have hbS : Below w4.heap.size w4 (w4.alloc (.cells #[.int .i64 ix, .slice ca (signL ((1 + n : Nat) : Int) seed ix (padTo (1 + n) b)).length cc, .slice qa (pathI ((1 + n : Nat) : Int) seed h ix h).length qc] 61)) := (Below.refl _ _).alloc (Nat.le_refl _) _
    have kB := Blk.new w4 61 #[.int .i64 ix, .slice ca (signL ((1 + n : Nat) : Int) seed ix (padTo (1 + n) b)).length cc, .slice qa (pathI ((1 + n : Nat) : Int) seed h ix h).length qc]
    have HS := Lib.hid (show SB w (w4.alloc (.cells #[.int .i64 ix, .slice ca (signL ((1 + n : Nat) : Int) seed ix (padTo (1 + n) b)).length cc, .slice qa (pathI ((1 + n : Nat) : Int) seed h ix h).length qc] 61)) g (1 + n) h seed _ (padTo (1 + n) b) _ _ _ _ w4.heap.size ix from ⟨hm4.below hbS, hd4.below hbS (Nat.le_refl _), OSls.below hc4 hbS, OSls.below hp4 hbS, kB, hw4.trans (hbS.mono hw4.size), hg⟩)
    obtain ⟨z0, z1, z2⟩ := rec3 kB
    clear HSG hc4 hp4 hm4 hg4 hd4 hw4 kg hd hbw hk3
    generalize hSLe : signL ((1 + n : Nat) : Int) seed ix (padTo (1 + n) b) = SL at *
    generalize hPTe : pathI ((1 + n : Nat) : Int) seed h ix h = PT at *
    generalize hRTe : (lvI ((1 + n : Nat) : Int) seed h h).getD 0 [] = RT at *
    have HRTe := Lib.hid hRTe
    clear hRTe
    generalize padTo (1 + n) b = dg at *
    clear hSLe hPTe
    go_upto_region 8 with (fail)
    generalize (w4.alloc (.cells #[.int .i64 ix, .slice ca SL.length cc, .slice qa PT.length qc] 61)) = w5 at *
    have hG := Lib.hid (show w5.cell? ⟨w4.heap.size, 0, none⟩ = some (.int .i64 ix) ∧ w5.cell? ⟨w4.heap.size, 1, none⟩ = some (.slice ca SL.length cc) ∧ w5.cell? ⟨w4.heap.size, 2, none⟩ = some (.slice qa PT.length qc) from ⟨z0, z1, z2⟩)
    have HVB1 := HVB.out RT
    have HVB2 := HVB.out other
    rw [decide_eq_true rfl] at HVB1
    have HPUB := Lib.hid (fun w' (q : SB w w' g (1 + n) h seed (.slice (some ⟨w2.heap.size, 0, none⟩) (1 + n) (1 + n)) dg (.slice ca SL.length cc) SL (.slice qa PT.length qc) PT w4.heap.size ix) => q.pub (by omega) (by omega) (by omega) HBB.out HTT.out)
    rw [HRTe.out] at HPUB
    have HV1 := Lib.hid (fun w' (q : SB w w' g (1 + n) h seed (.slice (some ⟨w2.heap.size, 0, none⟩) (1 + n) (1 + n)) dg (.slice ca SL.length cc) SL (.slice qa PT.length qc) PT w4.heap.size ix) x (hx : Sl w' x (RT.map (Value.int .u8))) => verify_any ((1 + n : Nat) : Int) x RT h _ dg _ ix SL PT w' (by omega) (by omega) (by omega) (by omega) HRB.out hx HB1.out q.hd HSI.out HPI.out q.sig (HTT.out.below q.hw))
    have HV2 := Lib.hid (fun w' (q : SB w w' g (1 + n) h seed (.slice (some ⟨w2.heap.size, 0, none⟩) (1 + n) (1 + n)) dg (.slice ca SL.length cc) SL (.slice qa PT.length qc) PT w4.heap.size ix) => verify_any ((1 + n : Nat) : Int) (.slice oa on oc) other h _ dg _ ix SL PT w' (by omega) (by omega) (by omega) (by omega) hBo (HSO.out.below q.hw (Nat.le_refl _)) HB1.out q.hd HSI.out HPI.out q.sig (HTT.out.below q.hw))
    have HEQ := Lib.hid (fun w' (q : SB w w' g (1 + n) h seed (.slice (some ⟨w2.heap.size, 0, none⟩) (1 + n) (1 + n)) dg (.slice ca SL.length cc) SL (.slice qa PT.length qc) PT w4.heap.size ix) x (hx : Sl w' x (RT.map (Value.int .u8))) => bytesEq_any (.slice oa on oc) x other RT w' (HSO.out.below q.hw (Nat.le_refl _)) hx hBo HRB.out)
    rw [HVB1] at HV1
    rw [HVB2] at HV2
    rw [show decide (other = RT) = decide (RT = other) by rw [decide_eq_decide]; exact eq_comm] at HEQ
    rw [show ((1 + n : Nat) : Int) = 1 + (n : Int) by omega] at HV1 HV2
    generalize decide (RT = other) = VV at *
    have hbeq : (VV == VV) = true := beq_self_eq_true VV
    clear z0 z1 z2 kB hbS HVB HVB1 HVB2 HSI HPI HRB HRTe HIX hL hM hX
    go_wp2
    go_region_held3 (fun w' => w'.cell? ⟨w4.heap.size, 0, none⟩ = some (.int .i64 ix) ∧ w'.cell? ⟨w4.heap.size, 1, none⟩ = some (.slice ca SL.length cc) ∧ w'.cell? ⟨w4.heap.size, 2, none⟩ = some (.slice qa PT.length qc)) (exact hG.out) (first | (go_at_call 17; refine (HEQ.out _ hs9 _ hx9).mono ?_; rintro e wq ⟨rfl, rfl⟩) | (go_at_call 38; refine (HPUB.out _ hs8).mono ?_; rintro e w9 ⟨x9, rfl, hx9, hs9, hg9⟩; have hG := Lib.hid (rec3 hs9.kB)) | (go_at_call 49; refine (HV2.out _ hs7).mono ?_; rintro e w8 ⟨rfl, hb8⟩; have hs8 := hs7.below hb8; have hG := Lib.hid (rec3 hs8.kB)) | (go_at_call 49; refine (HV1.out _ hs6 _ hx6).mono ?_; rintro e w7 ⟨rfl, hb7⟩; have hs7 := hs6.below hb7; have hG := Lib.hid (rec3 hs7.kB)) | (go_at_call 38; refine (HPUB.out _ (HS.out.below (by first | exact Below.refl _ _ | exact (Below.refl _ _).drew))).mono ?_; rintro e w6 ⟨x6, rfl, hx6, hs6, hg6⟩; have hG := Lib.hid (rec3 hs6.kB)))
    all_goals
      have hbz := hs9.hw
      go_wp2
      go_ret
      exact ⟨rfl, hbz⟩

end Go.Proofs.YtililoojjfcfgaaDoor
