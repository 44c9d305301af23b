
/- A device that no call made: every call's answer (printed by gen_dvn.py). A log: awake. Conditions: the tables of SHA are laid. bytes.Repeat of one byte, a few thousand times. The walk of the law SeglogRoom. Conditions: the tables of SHA are laid. A log behind a crash: plainly. Conditions: none. A log's sectors, read back: plainly. Conditions: none. A log behind a crash: what is read, plainly. Conditions: none. A record that is appended while the device stops, and a crash behind it: plainly. Conditions: none. -/
import Derived.Test.YtgfkejecigefbaaDoorDvA
import Derived.Test.YtgfkejecigefbaaDoorSx1
import Derived.Test.YtgfkejecigefbaaDoorDvE
import Derived.Test.YtgfkejecigefbaaDoorMake
import Derived.Laws.Bits64b
import Derived.Lib.MakeNoZero
import Derived.Laws.CopyOwn
import Derived.Deep.RegionLaw
import Derived.Deep.Cut
import Derived.Test.YtgfkejecigefbaaDoorDvH
namespace Go.Proofs.YtgfkejecigefbaaDoor
open Go.RowKit
set_option linter.unusedVariables false

/-- No device: nil, or one that no call made. -/
def NoDev (w : World) (a : Option Addr) : Prop := a = none ∨ ∃ g, a = some ⟨g, 0, none⟩ ∧ w.cell? ⟨g, 0, none⟩ = some (.slice none 0 0)
theorem NoDev.nil (w : World) : NoDev w none := .inl rfl

theorem nnone_any (w : World) (a : Option Addr) (h : NoDev w a) : Calls Tryd.prog 42 #[.pointer a] w fun e w' => e = .returned (.bool true) ∧ w = w' := by
  rcases h with rfl | ⟨g, rfl, c0⟩
  · go_enter Tryd.func42, Tryd.ntmps42
    go_wp2
    go_ret
    exact ⟨rfl, rfl⟩
  · go_enter Tryd.func42, Tryd.ntmps42
    go_wp2
    go_ret
    exact ⟨rfl, rfl⟩
theorem nat_any (w : World) (a : Option Addr) (i : Int) (h : NoDev w a) : Calls Tryd.prog 86 #[.pointer a, .int .i64 i] w fun e w' => e = .returned (.int .i64 2) ∧ w = w' := by
  have HN := Lib.hid (nnone_any w a h)
  clear h
  go_enter Tryd.func86, Tryd.ntmps86
  go_wp2_with fail
  refine HN.out.mono ?_
  rintro e w1 ⟨rfl, rfl⟩
  go_wp2
  go_ret
  exact ⟨rfl, rfl⟩
theorem nwrite_any (w : World) (a : Option Addr) (i : Int) (va : Option Addr) (vn vc : Nat) (h : NoDev w a) : Calls Tryd.prog 62 #[.pointer a, .int .i64 i, .slice va vn vc] w fun e w' => e = .returned (.int .i64 2) ∧ w = w' := by
  have HN := Lib.hid (nat_any w a i h)
  clear h
  go_enter Tryd.func62, Tryd.ntmps62
  go_wp2_with fail
  refine HN.out.mono ?_
  rintro e w1 ⟨rfl, rfl⟩
  go_wp2
  first | go_ret | go_ret2
  exact ⟨rfl, rfl⟩
theorem nsync_any (w : World) (a : Option Addr) (h : NoDev w a) : Calls Tryd.prog 63 #[.pointer a] w fun e w' => e = .returned (.int .i64 2) ∧ w = w' := by
  have HN := Lib.hid (nnone_any w a h)
  clear h
  go_enter Tryd.func63, Tryd.ntmps63
  go_wp2_with fail
  refine HN.out.mono ?_
  rintro e w1 ⟨rfl, rfl⟩
  go_wp2
  first | go_ret | go_ret2
  exact ⟨rfl, rfl⟩
theorem nfuse_any (w : World) (a : Option Addr) (i : Int) (h : NoDev w a) : Calls Tryd.prog 19 #[.pointer a, .int .i64 i] w fun e w' => e = .returned (.int .i64 2) ∧ w = w' := by
  have HN := Lib.hid (nnone_any w a h)
  clear h
  go_enter Tryd.func19, Tryd.ntmps19
  go_wp2_with fail
  refine HN.out.mono ?_
  rintro e w1 ⟨rfl, rfl⟩
  go_wp2
  first | go_ret | go_ret2
  exact ⟨rfl, rfl⟩
theorem ncrash_any (w : World) (a : Option Addr) (va : Option Addr) (vn vc : Nat) (h : NoDev w a) : Calls Tryd.prog 20 #[.pointer a, .slice va vn vc] w fun e w' => e = .returned (.int .i64 2) ∧ w = w' := by
  have HN := Lib.hid (nnone_any w a h)
  clear h
  go_enter Tryd.func20, Tryd.ntmps20
  go_wp2_with fail
  refine HN.out.mono ?_
  rintro e w1 ⟨rfl, rfl⟩
  go_wp2
  first | go_ret | go_ret2
  exact ⟨rfl, rfl⟩
theorem ndead_any (w : World) (a : Option Addr) (h : NoDev w a) : Calls Tryd.prog 38 #[.pointer a] w fun e w' => e = .returned (.bool true) ∧ w = w' := by
  have HN := Lib.hid (nnone_any w a h)
  clear h
  go_enter Tryd.func38, Tryd.ntmps38
  go_wp2_with fail
  refine HN.out.mono ?_
  rintro e w1 ⟨rfl, rfl⟩
  go_wp2
  first | go_ret | go_ret2
  exact ⟨rfl, rfl⟩
theorem nwaits_any (w : World) (a : Option Addr) (h : NoDev w a) : Calls Tryd.prog 43 #[.pointer a] w fun e w' => e = .returned (.slice none 0 0) ∧ w = w' := by
  have HN := Lib.hid (nnone_any w a h)
  clear h
  go_enter Tryd.func43, Tryd.ntmps43
  go_wp2_with fail
  refine HN.out.mono ?_
  rintro e w1 ⟨rfl, rfl⟩
  go_wp2
  first | go_ret | go_ret2
  exact ⟨rfl, rfl⟩
theorem nimage_any (w : World) (a : Option Addr) (h : NoDev w a) : Calls Tryd.prog 27 #[.pointer a] w fun e w' => e = .returned (.slice none 0 0) ∧ w = w' := by
  have HN := Lib.hid (nnone_any w a h)
  clear h
  go_enter Tryd.func27, Tryd.ntmps27
  go_wp2_with fail
  refine HN.out.mono ?_
  rintro e w1 ⟨rfl, rfl⟩
  go_wp2
  first | go_ret | go_ret2
  exact ⟨rfl, rfl⟩
theorem nchanges_any (w : World) (a : Option Addr) (h : NoDev w a) : Calls Tryd.prog 69 #[.pointer a] w fun e w' => e = .returned (.int .i64 0) ∧ w = w' := by
  have HN := Lib.hid (nnone_any w a h)
  clear h
  go_enter Tryd.func69, Tryd.ntmps69
  go_wp2_with fail
  refine HN.out.mono ?_
  rintro e w1 ⟨rfl, rfl⟩
  go_wp2
  first | go_ret | go_ret2
  exact ⟨rfl, rfl⟩

end Go.Proofs.YtgfkejecigefbaaDoor

namespace Go.Proofs.YtgfkejecigefbaaDoor
open Go.RowKit
set_option linter.unusedVariables false

theorem Sl.far {ds : List Nat} {w w' : World} {b o n c : Nat} {xs : List Value} (h : Sl w (.slice (some ⟨b, o, none⟩) n c) xs) (ho : Only ds w w') (hn : b ∉ ds) : Sl w' (.slice (some ⟨b, o, none⟩) n c) xs := by
  obtain ⟨a, c', e, h1, h2, h3⟩ := h
  cases e
  refine ⟨_, c, rfl, h1, h2, fun hp => ?_⟩
  obtain ⟨b', o', e, hlt, hc⟩ := h3 hp
  cases e
  exact ⟨b, o, rfl, Nat.lt_of_lt_of_le hlt ho.size, fun j u hu => (ho.cell (p := ⟨b, o + j, none⟩) hlt hn).trans (hc j u hu)⟩
theorem Lg.lts {w : World} {q g b B : Nat} {v : Value} {s : LSt} {d : DSt} (h : Lg w q g b B v s d) : ∀ k ∈ q :: g :: b :: v.ownBlock.toList, k < w.heap.size := by
  obtain ⟨cap, _, _, k1⟩ := h.dev.blk
  obtain ⟨c2, k2⟩ := h.dev.row.typ
  intro k hk
  simp only [List.mem_cons, Option.mem_toList] at hk
  rcases hk with rfl | rfl | rfl | hk
  · exact h.blk.lt
  · exact k1.lt
  · exact k2.lt
  · exact (h.row.low hk).2
/-- Where Open has said OK. -/
theorem OpenP.ok {w w' : World} {g b : Nat} {d : DSt} {e : Ending} (h : OpenP w w' g b d e) (he : d.opened.2 = 0) : ∃ q v, e = .returned (.tuple #[.pointer (some ⟨q, 0, none⟩), .int .i64 0]) ∧ w.heap.size ≤ q ∧ (∀ k, v.ownBlock = some k → w.heap.size ≤ k) ∧ Lg w' q g b w.heap.size v d.log d.opened.1 := by
  rcases h with h | h
  · exact h.2
  · exact absurd he h.1
theorem awake_app : (appD ⟨10, 0, [], false⟩ (newD 10) [97]).e = 0 ∧ (appD ⟨10, 0, [], false⟩ (newD 10) [97]).s = ⟨10, 2, [[97]], false⟩ := by
  have h := (appD_calm (s := ⟨10, 0, [], false⟩) (bs := [97]) (new_calm 10) rfl (new_len 10).symm).2.2.2.2.1 ⟨by decide, by decide, by unfold fits; rw [laidI_len]; decide⟩
  refine ⟨h.1, h.2.trans ?_⟩
  rw [laidI_len]
  rfl

set_option maxRecDepth 100000 in
set_option maxHeartbeats 1000000 in
theorem awake08_any (w : World) (ht : Tabs w) : Calls Tryd.prog 17 #[] w fun e w' => e = .returned (.bool true) ∧ Below w.heap.size w w' := by
  have HN := Lib.hid (dnew_ok 10 w (by decide) (by decide))
  have HT := Lib.hid ht
  have kc := fun (w : World) (C : Array Value) (n c : Nat) => Lib.run_convert_bytes_const (P := Tryd.prog) w 26 5 C n c Tryd.underlying26 Tryd.underlying5
  clear ht
  go_enter Tryd.func17, Tryd.ntmps17
  go_wp2_with fail
  refine HN.out.mono ?_
  rintro e w1 ⟨g, b, rfl, hg, hb, hD, hb1⟩
  have HO := Lib.hid (open_any w1 g b _ (HT.out.below hb1) hD)
  have HB1 := Lib.hid hb1
  have HGB := Lib.hid (And.intro hg hb)
  clear hg hb hD hb1 HN
  go_wp2_with fail
  refine HO.out.mono ?_
  rintro e w2 ⟨hP, hO⟩
  obtain ⟨q, v, rfl, hq, hv, hL⟩ := hP.ok (by rw [new_opened])
  rw [new_opened, new_log] at hL
  have hL : Lg w2 q g b w1.heap.size v ⟨10, 0, [], false⟩ (newD 10) := hL
  have HB2 := Lib.hid (Only.belowOf HB1.out hO HB1.out.size (fun k hk => by
    simp at hk
    rcases hk with rfl | rfl
    · exact HGB.out.1
    · exact HGB.out.2))
  have HQV := Lib.hid (And.intro hq hv)
  have HL := Lib.hid hL
  clear hP hO hq hv hL HO
  go_wp2_with fail
  have hbA : Below w2.heap.size w2 (w2.alloc (.cells #[.int .u8 97] 5 (1, 2))) := (Below.refl _ _).alloc (Nat.le_refl _) _
  have hs0 : Sl (w2.alloc (.cells #[.int .u8 97] 5 (1, 2))) (.slice (some ⟨w2.heap.size, 0, none⟩) 1 1) (([97] : List Int).map (Value.int .u8)) := Sl.litf w2 #[.int .u8 97] 5 (1, 2) (by simp [maxLen])
  have HLT := Lib.hid HL.out.lts
  have HAPP := Lib.hid (append_any _ q g b w1.heap.size v _ (newD 10) _ [97] (HL.out.below hbA) (by intro x hx; simp at hx; omega) (HT.out.below (below_trans2 HB2.out hbA)) hs0 (fun w' ho => hs0.far ho (fun hm => by have := HLT.out _ hm; omega)))
  have HBA := Lib.hid (below_trans2 HB2.out hbA)
  have HBS := Lib.hid (show ∀ k ∈ q :: g :: b :: v.ownBlock.toList, w.heap.size ≤ k from by
    intro k hk
    simp only [List.mem_cons, Option.mem_toList] at hk
    rcases hk with rfl | rfl | rfl | hk
    · exact Nat.le_trans HB1.out.size HQV.out.1
    · exact HGB.out.1
    · exact HGB.out.2
    · exact Nat.le_trans HB1.out.size (HQV.out.2 _ hk))
  clear hbA hs0 HL kc
  refine HAPP.out.mono ?_
  rintro e w3 ⟨v3, rfl, hL3, _, hO3⟩
  rw [awake_app.1]
  rw [awake_app.2] at hL3
  have HL3 := Lib.hid hL3
  have HB3 := Lib.hid (Only.belowOf HBA.out hO3 HBA.out.size HBS.out)
  have HLE := Lib.hid (llen_any w3 q g b _ v3 _ _ hL3)
  have HRO := Lib.hid (lroom_any w3 q g b _ v3 _ _ hL3)
  rw [show roomI ⟨10, 2, [[97]], false⟩ = 436 from by decide] at HRO
  clear hL3 hO3 HAPP HBA
  go_wp2_with fail
  refine HLE.out.mono ?_
  rintro e w4 ⟨rfl, rfl⟩
  go_wp2_with fail
  refine HRO.out.mono ?_
  rintro e w5 ⟨rfl, hb5⟩
  have HB5 := Lib.hid (below_trans2 HB3.out hb5)
  clear hb5
  go_wp2
  go_ret
  exact ⟨rfl, HB5.out⟩

/-- Open, on no device. -/
theorem nopen_any (w : World) (a : Option Addr) (h : NoDev w a) (hI : Calls Tryd.prog 27 #[.pointer a] w fun e w' => e = .returned (.slice none 0 0) ∧ w = w') :
    Calls Tryd.prog 16 #[.pointer a] w fun e w' => e = .returned (.tuple #[.pointer none, .int .i64 2]) ∧ w = w' := by
  have HI := Lib.hid hI
  clear h hI
  go_enter Tryd.func16, Tryd.ntmps16
  go_wp2_with fail
  refine HI.out.mono ?_
  rintro e w1 ⟨rfl, rfl⟩
  go_wp2
  go_ret2
  exact ⟨rfl, rfl⟩

set_option maxRecDepth 100000 in
set_option maxHeartbeats 1000000 in
theorem seglogNobody_walk (v : Value) (bs : List Int) (w : World) (ht : Tabs w) (hB : IsB bs) (hs : Sl w v (bs.map (Value.int .u8))) (hl : bs.length ≤ reachBytes) :
    Calls Tryd.prog 4 #[v] w fun e w' => e = .returned (.bool true) ∧ Below w.heap.size w w' := by
  have HT := Lib.hid ht
  obtain ⟨va, vn, vc, rfl⟩ := hs.val
  clear ht hs
  go_enter Tryd.func4, Tryd.ntmps4
  go_wp2
  have kL := (Blk.new w 36 #[.pointer none, .int .i64 0, .int .i64 0, .slice none 0 0, .bool false]).alloc (.cells #[.pointer none, .pointer (some ⟨w.heap.size, 0, none⟩)] 33)
  have kA := Blk.new (w.alloc (.cells #[.pointer none, .int .i64 0, .int .i64 0, .slice none 0 0, .bool false] 36)) 33 #[.pointer none, .pointer (some ⟨w.heap.size, 0, none⟩)]
  have hbA : Below w.heap.size w ((w.alloc (.cells #[.pointer none, .int .i64 0, .int .i64 0, .slice none 0 0, .bool false] 36)).alloc (.cells #[.pointer none, .pointer (some ⟨w.heap.size, 0, none⟩)] 33)) := ((Below.refl _ w).alloc (Nat.le_refl _) _).alloc (by simp) _
  rw [show (w.alloc (.cells #[.pointer none, .int .i64 0, .int .i64 0, .slice none 0 0, .bool false] 36)).heap.size = w.heap.size + 1 from by simp] at kA
  have HK := Lib.hid (And.intro kL kA)
  have HBA := Lib.hid hbA
  clear kL kA hbA
  generalize ((w.alloc (.cells #[.pointer none, .int .i64 0, .int .i64 0, .slice none 0 0, .bool false] 36)).alloc (.cells #[.pointer none, .pointer (some ⟨w.heap.size, 0, none⟩)] 33)) = wA at *
  go_loopw [13] (fun iv wr => ∃ k : Nat, k ≤ 2 ∧ iv = .int .i64 k ∧ wA = wr) (fun iv _ => 2 - (intOf iv).toNat)
  case atStart => exact ⟨0, by omega, rfl, rfl⟩
  case round =>
    obtain ⟨k, hk, rfl, rfl⟩ := hrel
    by_cases hlt : k < 2
    · have hkI : (k : Int) < 2 := by omega
      obtain ⟨a, ca, hND⟩ : ∃ a, wA.cell? ⟨w.heap.size + 1, k, none⟩ = some (.pointer a) ∧ NoLog wA a := by
        match k, hlt with
        | 0, _ => exact ⟨none, HK.out.2.cell 0, .inl rfl⟩
        | 1, _ => exact ⟨some ⟨w.heap.size, 0, none⟩, HK.out.2.cell 1, .inr ⟨_, rfl, HK.out.1.cell 0⟩⟩
      have H1 := Lib.hid (nlappend_any wA a (.slice va vn vc) hND)
      have H2 := Lib.hid (nlrecords_any wA a hND)
      have H3 := Lib.hid (nlroom_any wA a hND)
      have H4 := Lib.hid (nllen_any wA a hND)
      have H5 := Lib.hid (nlstopped_any wA a hND)
      clear hND
      go_wp2_with (first
        | (refine H1.out.mono ?_; rintro e w4 ⟨rfl, rfl⟩)
        | (refine H2.out.mono ?_; rintro e w4 ⟨rfl, rfl⟩)
        | (refine H3.out.mono ?_; rintro e w4 ⟨rfl, rfl⟩)
        | (refine H4.out.mono ?_; rintro e w4 ⟨rfl, rfl⟩)
        | (refine H5.out.mono ?_; rintro e w4 ⟨rfl, rfl⟩))
      go_roundw
      case rel => exact ⟨k + 1, by omega, by go_num, trivial⟩
      case measure => simp [intOf]; omega
    · have hk2 : (k : Int) = 2 := by omega
      rw [hk2]
      clear hk2
      go_wp2
      have kD := (Blk.new wA 43 #[.slice none 0 0, .bool false, .bool false, .int .i64 0, .int .i64 0]).alloc (.cells #[.pointer none, .pointer (some ⟨wA.heap.size, 0, none⟩)] 34)
      have kB := Blk.new (wA.alloc (.cells #[.slice none 0 0, .bool false, .bool false, .int .i64 0, .int .i64 0] 43)) 34 #[.pointer none, .pointer (some ⟨wA.heap.size, 0, none⟩)]
      have hbB : Below wA.heap.size wA ((wA.alloc (.cells #[.slice none 0 0, .bool false, .bool false, .int .i64 0, .int .i64 0] 43)).alloc (.cells #[.pointer none, .pointer (some ⟨wA.heap.size, 0, none⟩)] 34)) := ((Below.refl _ wA).alloc (Nat.le_refl _) _).alloc (by simp) _
      rw [show (wA.alloc (.cells #[.slice none 0 0, .bool false, .bool false, .int .i64 0, .int .i64 0] 43)).heap.size = wA.heap.size + 1 from by simp] at kB
      have HK2 := Lib.hid (And.intro kD kB)
      have HBB := Lib.hid (below_trans2 HBA.out hbB)
      clear kD kB hbB HK HBA
      generalize ((wA.alloc (.cells #[.slice none 0 0, .bool false, .bool false, .int .i64 0, .int .i64 0] 43)).alloc (.cells #[.pointer none, .pointer (some ⟨wA.heap.size, 0, none⟩)] 34)) = wB at *
      go_loopw [43] (fun iv wr => ∃ k : Nat, k ≤ 2 ∧ iv = .int .i64 k ∧ wB = wr) (fun iv _ => 2 - (intOf iv).toNat)
      case atStart => exact ⟨0, by omega, rfl, rfl⟩
      case round =>
        obtain ⟨k, hk, rfl, rfl⟩ := hrel
        by_cases hlt : k < 2
        · have hkI : (k : Int) < 2 := by omega
          obtain ⟨a, ca, hND⟩ : ∃ a, wB.cell? ⟨wA.heap.size + 1, k, none⟩ = some (.pointer a) ∧ NoDev wB a := by
            match k, hlt with
            | 0, _ => exact ⟨none, HK2.out.2.cell 0, .inl rfl⟩
            | 1, _ => exact ⟨some ⟨wA.heap.size, 0, none⟩, HK2.out.2.cell 1, .inr ⟨_, rfl, HK2.out.1.cell 0⟩⟩
          have H1 := Lib.hid (nopen_any wB a hND (nimage_any wB a hND))
          clear hND
          go_wp2_with (refine H1.out.mono ?_; rintro e w4 ⟨rfl, rfl⟩)
          go_roundw
          case rel => exact ⟨k + 1, by omega, by go_num, trivial⟩
          case measure => simp [intOf]; omega
        · obtain rfl : k = 2 := by omega
          have HAW := Lib.hid (awake08_any wB (HT.out.below HBB.out))
          go_wp2_with fail
          refine HAW.out.mono ?_
          rintro e w4 ⟨rfl, hb4⟩
          have hb := below_trans2 HBB.out hb4
          go_wp2
          go_ret
          exact ⟨rfl, hb⟩

end Go.Proofs.YtgfkejecigefbaaDoor

namespace Go.Proofs.YtgfkejecigefbaaDoor
open Go.RowKit
set_option linter.unusedVariables false

set_option maxHeartbeats 1000000 in
theorem mul64_one (n : Nat) (hn : n ≤ 100000) (w : World) :
    Calls Tryd.prog 72 #[.int .u64 1, .int .u64 n] w fun e w' => e = .returned (.tuple #[.int .u64 0, .int .u64 n]) ∧ w = w' := by
  have h1 : bits .and .u64 1 4294967295 = 1 := by decide
  have h0 : bits .and .u64 0 4294967295 = 0 := by decide
  have hm : bits .and .u64 (n : Int) 4294967295 = n := by
    have h := bits_and_u64_nat n 4294967295 (by omega) (by omega)
    have e : n &&& 4294967295 = n % 4294967296 := Nat.and_two_pow_sub_one_eq_mod n 32
    rw [e, Nat.mod_eq_of_lt (by omega)] at h
    exact h
  have hd : (n : Int) / 4294967296 = 0 := by omega
  have hw : IntKind.u64.wrap (n : Int) = n := by rw [IntKind.wrap_u64]; omega
  go_enter Tryd.func72, Tryd.ntmps72
  go_wp2
  go_ret2
  exact ⟨rfl, rfl⟩
theorem mul_one_any (n : Nat) (hn : n ≤ 100000) (w : World) :
    Calls Tryd.prog 50 #[.int .u64 1, .int .u64 n] w fun e w' => e = .returned (.tuple #[.int .u64 0, .int .u64 n]) ∧ w = w' := by
  have HM := Lib.hid (mul64_one n hn w)
  have hw : IntKind.u64.wrap (n : Int) = n := by rw [IntKind.wrap_u64]; omega
  go_enter Tryd.func50, Tryd.ntmps50
  go_wp2_with fail
  refine HM.out.mono ?_
  rintro e w1 ⟨rfl, rfl⟩
  go_wp2
  go_ret2
  exact ⟨rfl, rfl⟩

theorem splice_rep {cur : List Value} {p q : Nat} {u : Value} (h : cur.take p = List.replicate p u) (hl : p + q ≤ cur.length) : (splice cur p (List.replicate q u)).take (p + q) = List.replicate (p + q) u ∧ (splice cur p (List.replicate q u)).length = cur.length := by
  unfold splice
  rw [h, List.length_replicate]
  refine ⟨?_, by simp; omega⟩
  rw [← List.append_assoc, List.replicate_append_replicate, List.take_append_of_le_length (by simp), List.take_of_length_le (by simp)]

theorem wpList_copy_at {w : World} {ops : Array Oper} {rest : List Oper} {o : Oper} {a : Act} {Q : Exit → Act → World → Prop} (hgd : o.guard = none) (d s : Operand)
    (ho : o.op = .call { callee := .builtin .copy, args := #[d, s], argTypes := #[26, 26] })
    (g off dLen dCap : Nat) (ad : Addr) (sLen sCap : Nat) (hd : a.eval d = .slice (some ⟨g, off, none⟩) dLen dCap) (hs : a.eval s = .slice (some ad) sLen sCap)
    (cur : List Value) (hg : w.heap[g]? = some (.cells cur.toArray 5 (0, 0))) (cs : List Value) (hn : cs.length = Nat.min sLen dLen)
    (hsrc : ∀ j v, cs[j]? = some v → w.cell? (ad.add j) = some v)
    (hfit : off + cs.length ≤ cur.length) (h1 : ∀ v ∈ cs, v.oneCell' = true) (B : Nat) (w0 : World) (hb : Below B w0 w) (hBg : B ≤ g)
    (h : ∀ w', Hid (w'.heap[g]? = some (.cells (splice cur off cs).toArray 5 (0, 0))) → Below B w0 w' → wpList Tryd.prog ops Q rest (a.put o.dst (goInt cs.length)) w') :
    wpList Tryd.prog ops Q (o :: rest) a w :=
  wpList_copy_splice hgd d s _ _ ho 5 Tryd.underlying26 infoSize8 (some ⟨g, off, none⟩) (some ad) dLen dCap sLen sCap hd hs g off cur 5 hg cs hn (fun _ => ⟨rfl, ad, rfl, hsrc⟩) hfit h1 B w0 hb hBg h
theorem step_copy_at {ops : Array Oper} {o : Oper} {a : Act} {w : World} {K : Act → World → Prop} {Q : Exit → Act → World → Prop} {E : Prop} (hgd : o.guard = none) (d s : Operand)
    (ho : o.op = .call { callee := .builtin .copy, args := #[d, s], argTypes := #[26, 26] })
    (g off dLen dCap : Nat) (ad : Addr) (sLen sCap : Nat) (hd : a.eval d = .slice (some ⟨g, off, none⟩) dLen dCap) (hs : a.eval s = .slice (some ad) sLen sCap)
    (cur : List Value) (hg : w.heap[g]? = some (.cells cur.toArray 5 (0, 0))) (cs : List Value) (hn : cs.length = Nat.min sLen dLen)
    (hsrc : ∀ j v, cs[j]? = some v → w.cell? (ad.add j) = some v)
    (hfit : off + cs.length ≤ cur.length) (h1 : ∀ v ∈ cs, v.oneCell' = true) (B : Nat) (w0 : World) (hb : Below B w0 w) (hBg : B ≤ g)
    (h : ∀ w', Hid (w'.heap[g]? = some (.cells (splice cur off cs).toArray 5 (0, 0))) → Below B w0 w' → K (a.put o.dst (goInt cs.length)) w') :
    if Region.wanted o (yielded ops a.tmps) = true then Oper.wp Tryd.prog o a w K Q else E :=
  step_copy_splice hgd d s _ _ ho 5 Tryd.underlying26 infoSize8 (some ⟨g, off, none⟩) (some ad) dLen dCap sLen sCap hd hs g off cur 5 hg cs hn (fun _ => ⟨rfl, ad, rfl, hsrc⟩) hfit h1 B w0 hb hBg h

set_option maxRecDepth 100000 in
set_option maxHeartbeats 2000000 in
theorem repeat_any (x : Int) (n : Nat) (v : Value) (w : World) (hn1 : 1 ≤ n) (hn : n ≤ 8192) (hs : Sl w v [Value.int .u8 x]) :
    Calls Tryd.prog 26 #[v, .int .i64 n] w fun e w' => e = .returned (.slice (some ⟨w.heap.size, 0, none⟩) n n) ∧ Sl w' (.slice (some ⟨w.heap.size, 0, none⟩) n n) ((List.replicate n x).map (Value.int .u8)) ∧ (∃ cur, Blk w' w.heap.size 5 cur) ∧ Below w.heap.size w w' := by
  have HM := Lib.hid (mul_one_any n (by omega) w)
  have hw : IntKind.u64.wrap (n : Int) = n := by rw [IntKind.wrap_u64]; omega
  have hw2 : IntKind.i64.wrap (n : Int) = n := by rw [IntKind.wrap_i64]; omega
  obtain ⟨va, vc, rfl, hvc, hvm⟩ := hs.shape
  obtain ⟨b, o, rfl, hb, hc⟩ := hs.addr (by simp)
  have hz : ((n : Int) == 0) = false := by rw [beq_eq_false_iff_ne]; omega
  have hz2 : ¬ (n : Int) < 0 := by omega
  have hz3 : decide ((9223372036854775807 : Int) < (n : Int)) = false := by rw [decide_eq_false_iff_not]; omega
  have hz4 : decide ((8192 : Int) < (n : Int)) = false := by rw [decide_eq_false_iff_not]; omega
  obtain ⟨cs, hrunM, hle, hlm⟩ := Lib.run_makeNoZero (P := Tryd.prog) w #[3] 26 5 Tryd.underlying26 n (by omega)
  have hcall : (callFunc 51 #[.int .i64 (n : Int)]).run Tryd.prog w = .ok (.value (.slice (some ⟨w.heap.size, 0, none⟩) n cs.size)) ((w.alloc (.cells cs 5)).drewN 2) := by
    rw [run_callFunc_extern Tryd.func51 (by kernel_rfl) (by kernel_rfl) (by kernel_rfl) (e := Extern.BytealgMakeNoZero.makeNoZero #[3] #[26]) (by kernel_rfl), hrunM]
    rfl
  have hbA : Below w.heap.size w ((w.alloc (.cells cs 5)).drewN 2) := below_drewN ((Below.refl _ _).alloc (Nat.le_refl _) _) 2
  have kA : Blk ((w.alloc (.cells cs 5)).drewN 2) w.heap.size 5 cs.toList.toArray := by
    rw [Array.toArray_toList]; exact (Blk.new w 5 cs).drewN 2
  have hcA : ((w.alloc (.cells cs 5)).drewN 2).cell? ⟨b, o, none⟩ = some (.int .u8 x) := (hbA.cell (p := ⟨b, o, none⟩) hb).trans (by have := hc 0 _ rfl; simpa using this)
  have i1 : (n : Int) ≤ (cs.size : Int) := by omega
  clear hrunM hs hc
  go_enter Tryd.func26, Tryd.ntmps26
  go_wp2_with fail
  refine HM.out.mono ?_
  rintro e w1 ⟨rfl, rfl⟩
  have HKA := Lib.hid (show ((w.alloc (.cells cs 5)).drewN 2).heap[w.heap.size]? = some (.cells cs.toList.toArray 5 (0, 0)) from kA)
  have HC1 := Lib.hid (show [Value.int .u8 x].length = Nat.min 1 n from by show 1 = min 1 n; omega)
  have HC2 := Lib.hid (show ∀ j v, [Value.int .u8 x][j]? = some v → ((w.alloc (.cells cs 5)).drewN 2).cell? ((⟨b, o, none⟩ : Addr).add j) = some v from
    fun j u hu => by
      match j, hu with
      | 0, hu => simp at hu; subst hu; rw [add_plain0]; exact hcA
      | j + 1, hu => simp at hu)
  have HC3 := Lib.hid (show 0 + [Value.int .u8 x].length ≤ cs.toList.length from by simp; omega)
  have HC4 := Lib.hid (show ∀ v ∈ [Value.int .u8 x], v.oneCell' = true from by simp [Value.oneCell'])
  have HLC := Lib.hid (show cs.toList.length = cs.size ∧ n ≤ cs.size ∧ cs.size ≤ 9223372036854775807 from ⟨by simp, hle, by have := hlm (by unfold maxLen; omega); unfold maxLen at this; exact this⟩)
  go_wp2_with (with_reducible refine wpList_copy_at rfl _ _ rfl w.heap.size 0 n n ⟨b, o, none⟩ 1 vc rfl rfl cs.toList HKA.out [Value.int .u8 x] HC1.out HC2.out HC3.out HC4.out w.heap.size w hbA (Nat.le_refl _) ?_)
  intro w2 hk2 hb2
  obtain ⟨C, hC⟩ : ∃ C, C = splice cs.toList 0 [Value.int .u8 x] := ⟨_, rfl⟩
  have hC1 : C.take 1 = List.replicate 1 (Value.int .u8 x) ∧ C.length = cs.toList.length := by
    rw [hC]; exact splice_rep (q := 1) (by simp) HC3.out
  rw [← hC] at hk2
  have HC0 := Lib.hid (show Blk w2 w.heap.size 5 C.toArray ∧ C.take 1 = List.replicate 1 (Value.int .u8 x) ∧ C.length = cs.size from ⟨hk2.out, hC1.1, hC1.2.trans HLC.out.1⟩)
  have HB2 := Lib.hid hb2
  clear hk2 hb2 hC hC1 kA hbA hcA hcall
  go_wp2
  go_loopw [10, 11] (fun p _ wr => ∃ (k : Nat) (D : List Value), 1 ≤ k ∧ k ≤ n ∧ p = .int .i64 k ∧ Blk wr w.heap.size 5 D.toArray ∧ D.take k = List.replicate k (Value.int .u8 x) ∧ D.length = cs.size ∧ Below w.heap.size w wr) (fun p _ _ => n - (intOf p).toNat)
  case atStart => exact ⟨1, C, by omega, by omega, rfl, HC0.out.1, HC0.out.2.1, HC0.out.2.2, HB2.out⟩
  case round =>
    obtain ⟨k, D, hk1, hk, rfl, hkD, hDt, hDl, hbr⟩ := hrel
    by_cases hlt : k < n
    · have hkI : (k : Int) < (n : Int) := by omega
      have hmin : min (k : Int) (n : Int) = k := by omega
      have hnk : ¬ (n = k) := by omega
      obtain ⟨q, hq⟩ : ∃ q, q = Nat.min k (n - k) := ⟨_, rfl⟩
      have hq1 : 1 ≤ q ∧ q ≤ k ∧ k + q ≤ n := by
        have : q = min k (n - k) := hq
        omega
      have hDat : ∀ j, j < k → D[j]? = some (Value.int .u8 x) := fun j hj => by
        have := congrArg (fun l => l[j]?) hDt
        simp only [List.getElem?_take, List.getElem?_replicate, if_pos hj] at this
        exact this
      have HKD := Lib.hid (show wr.drew.heap[w.heap.size]? = some (.cells D.toArray 5 (0, 0)) from hkD)
      have HD1 := Lib.hid (show (List.replicate q (Value.int .u8 x)).length = Nat.min k (n - k) from by rw [List.length_replicate]; exact hq)
      have HD2 := Lib.hid (show ∀ j v, (List.replicate q (Value.int .u8 x))[j]? = some v → wr.drew.cell? ((⟨w.heap.size, 0, none⟩ : Addr).add j) = some v from
        fun j u hu => by
          rw [List.getElem?_replicate] at hu
          split at hu
          · rename_i hj
            cases hu
            rw [add_plain0]
            have := hkD.cell (0 + j)
            rw [Nat.zero_add] at this ⊢
            show wr.cell? _ = _
            rw [this, List.getElem?_toArray]
            exact hDat j (by omega)
          · cases hu)
      have HD3 := Lib.hid (show k + (List.replicate q (Value.int .u8 x)).length ≤ D.length from by rw [List.length_replicate, hDl]; have := HLC.out.2.1; omega)
      have HD4 := Lib.hid (show ∀ v ∈ List.replicate q (Value.int .u8 x), v.oneCell' = true from fun v hv => by obtain ⟨_, rfl⟩ := List.mem_replicate.1 hv; rfl)
      have HSP := Lib.hid (splice_rep (q := q) hDt (by rw [hDl]; have := HLC.out.2.1; omega))
      have HQL := Lib.hid (show ((List.replicate q (Value.int .u8 x)).length : Int) = q from by simp)
      have HDL := Lib.hid hDl
      have HBR := Lib.hid hbr.drew
      generalize hR : List.replicate q (Value.int .u8 x) = R at *
      clear hkD hDt hDl hDat hbr hq hR
      go_wp2
      go_region_law (refine step_copy_at rfl (.tmp 70) (.tmp 73) rfl w.heap.size k (n - k) (n - k) ⟨w.heap.size, 0, none⟩ k n ?_ ?_ D HKD.out R HD1.out HD2.out HD3.out HD4.out w.heap.size w HBR.out (Nat.le_refl _) ?_; (focus (go_simp; done)); (focus (go_simp; done)); intro w3 hk3 hb3)
      all_goals
        go_wp2
        have hl : R.length = q := by have := HQL.out; omega
        have hwr : (IntKind.i64.wrap ((k : Int) + (q : Int))) = ((k + q : Nat) : Int) := by rw [IntKind.wrap_i64]; omega
        go_simp
        exact ⟨⟨k + q, by omega, hq1.2.2, by push_cast; rfl, splice D k R, hk3.out, HSP.out.1, HSP.out.2.trans HDL.out⟩, by simp [intOf]; omega⟩
    · obtain rfl : k = n := by omega
      have hkI : ¬ (k : Int) < (k : Int) := by omega
      have HF := Lib.hid (show Sl wr (.slice (some ⟨w.heap.size, 0, none⟩) k k) ((List.replicate k x).map (Value.int .u8)) from by
        refine ⟨_, k, by simp, by simp, by have := HLC.out; unfold maxLen; omega, fun _ => ⟨w.heap.size, 0, rfl, hkD.lt, fun j u hu => ?_⟩⟩
        rw [List.getElem?_map, List.getElem?_replicate] at hu
        split at hu
        · rename_i hj
          cases hu
          have := hkD.cell (0 + j)
          rw [this, Nat.zero_add, List.getElem?_toArray]
          have h2 := congrArg (fun l => l[j]?) hDt
          simp only [List.getElem?_take, List.getElem?_replicate, if_pos hj] at h2
          exact h2
        · cases hu)
      have HKD := Lib.hid hkD
      have HBR := Lib.hid hbr
      clear hkD hDt hDl hbr
      go_wp2
      go_ret
      exact ⟨rfl, by rw [List.map_replicate] at HF; exact HF.out, ⟨_, HKD.out⟩, HBR.out⟩

end Go.Proofs.YtgfkejecigefbaaDoor

namespace Go.Proofs.YtgfkejecigefbaaDoor
open Go.RowKit
set_option linter.unusedVariables false

theorem mod_place (a k : Int) (hk : 1 ≤ k ∧ k ≤ 100000) : ∃ M : Nat, wrap64 (1 + wrap64 ((IntKind.u64.wrap a).tmod k)) = (M : Int) ∧ 1 ≤ M ∧ (M : Int) ≤ k := by
  have h0 : 0 ≤ IntKind.u64.wrap a := by rw [IntKind.wrap_u64]; omega
  have h1 : (IntKind.u64.wrap a).tmod k = IntKind.u64.wrap a % k := Int.tmod_eq_emod_of_nonneg h0
  have h2 := Int.emod_nonneg (IntKind.u64.wrap a) (show k ≠ 0 by omega)
  have h3 := Int.emod_lt_of_pos (IntKind.u64.wrap a) (show 0 < k by omega)
  rw [h1]
  generalize IntKind.u64.wrap a % k = r at *
  refine ⟨(1 + r).toNat, ?_, by omega, by omega⟩
  unfold wrap64
  omega
theorem mod_place0 (a k : Int) (hk : 1 ≤ k ∧ k ≤ 100000) : ∃ M : Nat, wrap64 ((IntKind.u64.wrap a).tmod k) = (M : Int) ∧ (M : Int) < k := by
  have h0 : 0 ≤ IntKind.u64.wrap a := by rw [IntKind.wrap_u64]; omega
  have h1 : (IntKind.u64.wrap a).tmod k = IntKind.u64.wrap a % k := Int.tmod_eq_emod_of_nonneg h0
  have h2 := Int.emod_nonneg (IntKind.u64.wrap a) (show k ≠ 0 by omega)
  have h3 := Int.emod_lt_of_pos (IntKind.u64.wrap a) (show 0 < k by omega)
  rw [h1]
  generalize IntKind.u64.wrap a % k = r at *
  refine ⟨r.toNat, ?_, by omega⟩
  unfold wrap64
  omega
theorem OBs.only2 {ds : List Nat} {w w' : World} {base : Nat} {v : Value} {pss : List (List Int)} (h : OBs w base v pss) (ho : Only ds w w') (hd : ∀ g ∈ ds, ∀ cur, ¬ Blk w g 5 cur) (hv : ∀ g, v.ownBlock = some g → g ∉ ds) : OBs w' base v pss := by
  obtain ⟨vs, h1, h2⟩ := h
  exact ⟨vs, ho.owns h1 hv, h2.mono fun u p q => q.only ho hd⟩
theorem OBs.low {w : World} {base : Nat} {v : Value} {pss : List (List Int)} (h : OBs w base v pss) {g : Nat} (hg : v.ownBlock = some g) : base ≤ g ∧ g < w.heap.size := by
  obtain ⟨vs, h1, _⟩ := h
  exact h1.lt g hg
theorem Lg.noText {w : World} {q g b B : Nat} {v : Value} {s : LSt} {d : DSt} (h : Lg w q g b B v s d) : ∀ k ∈ q :: g :: b :: v.ownBlock.toList, ∀ cur, ¬ Blk w k 5 cur := by
  intro k hk cur e
  simp only [List.mem_cons, Option.mem_toList] at hk
  rcases hk with rfl | rfl | rfl | hk
  · exact Blk.ne_ e h.blk (by decide) rfl
  · exact (h.dev.noText k (by simp) cur).1 e
  · exact (h.dev.noText k (by simp) cur).1 e
  · exact h.row.noText k (by simp [hk]) cur e
theorem wpList_append_obW {w : World} {ops : Array Oper} {rest : List Oper} {o : Oper} {a : Act} {Q : Exit → Act → World → Prop} (hw : Region.wanted o (yielded ops a.tmps) = true) (s x : Operand)
    (ho : o.op = .call { callee := .builtin .append, args := #[s, x], argTypes := #[27, 27] })
    (base : Nat) (v : Value) (pss : List (List Int)) (hs : a.eval s = v) (hown : OBs w base v pss)
    (b cap : Nat) (hx : a.eval x = .slice (some ⟨b, 0, none⟩) 1 cap) (u : Value) (hc : w.cell? ⟨b, 0, none⟩ = some u) (p : List Int) (hu : OB w base u p)
    (h63 : pss.length + 1 ≤ 5000000000000) (hbase : base ≤ w.heap.size)
    (h : ∀ v' w', OBs w' base v' (pss ++ [p]) → Below base w w' → w.grownBy w' v.ownBlock → wpList Tryd.prog ops Q rest (a.put o.dst v') w') : wpList Tryd.prog ops Q (o :: rest) a w := by
  obtain ⟨v', w', hrun, q1, q2, q3⟩ := run_append_ob (ty := o.type) base v pss hown b cap u hc p hu h63 hbase
  refine wpList_step fun K hK => ?_
  rw [if_pos hw]
  unfold Oper.wp
  simp [execOp, ho, resolve, invoke, builtin, hs, hx, hrun, Result.andThen]
  exact hK _ _ (h v' w' q1 q2 q3)

theorem TB.ofSl {w : World} {base b o n c : Nat} {bs : List Int} {cur : Array Value} (h : Sl w (.slice (some ⟨b, o, none⟩) n c) (bs.map (Value.int .u8))) (k : Blk w b 5 cur) (hp : 0 < bs.length) (hb : base ≤ b) : TB w base (.slice (some ⟨b, o, none⟩) n c) bs := by
  obtain ⟨a, c', e, h1, h2, h3⟩ := h
  rw [List.length_map] at e h1 h3
  cases e
  obtain ⟨b', o', e, hlt, hc⟩ := h3 hp
  cases e
  exact ⟨b, o, c, rfl, h1, h2, hb, ⟨cur, k⟩, hc⟩
theorem wpList_append_tbW {w : World} {ops : Array Oper} {rest : List Oper} {o : Oper} {a : Act} {Q : Exit → Act → World → Prop} (hw : Region.wanted o (yielded ops a.tmps) = true) (s x : Operand)
    (ho : o.op = .call { callee := .builtin .append, args := #[s, x], argTypes := #[27, 27] })
    (base : Nat) (v : Value) (pss : List (List Int)) (hs : a.eval s = v) (hown : TBs w base v pss)
    (b cap : Nat) (hx : a.eval x = .slice (some ⟨b, 0, none⟩) 1 cap) (u : Value) (hc : w.cell? ⟨b, 0, none⟩ = some u) (p : List Int) (hu : TB w base u p)
    (h63 : pss.length + 1 ≤ 5000000000000) (hbase : base ≤ w.heap.size)
    (h : ∀ v' w', TBs w' base v' (pss ++ [p]) → Below base w w' → w.grownBy w' v.ownBlock → wpList Tryd.prog ops Q rest (a.put o.dst v') w') : wpList Tryd.prog ops Q (o :: rest) a w := by
  obtain ⟨v', w', hrun, q1, q2, q3, _⟩ := run_append_tb (ty := o.type) base v pss hown b cap u hc p hu h63 hbase
  refine wpList_step fun K hK => ?_
  rw [if_pos hw]
  unfold Oper.wp
  simp [execOp, ho, resolve, invoke, builtin, hs, hx, hrun, Result.andThen]
  exact hK _ _ (h v' w' q1 q2 q3)

/-- While records are appended to a log that is all the call's own. -/
structure Gd (W wr : World) (q g b : Nat) (v : Value) (s : LSt) (d : DSt) : Prop where
  lg : ∃ B, Lg wr q g b B v s d
  bel : Below W.heap.size W wr
  base : ∀ k ∈ q :: g :: b :: v.ownBlock.toList, W.heap.size ≤ k
theorem Gd.app {W wr w' : World} {q g b B : Nat} {v : Value} {s : LSt} {d : DSt} {r : LRes} {e : Ending} (h : Gd W wr q g b v s d) (ha : AppP wr w' q g b B v r e) : ∃ v', e = .returned (.int .i64 r.e) ∧ Gd W w' q g b v' r.s r.d ∧ Only (q :: g :: b :: v.ownBlock.toList) wr w' ∧ (v'.ownBlock = v.ownBlock ∨ ∃ k, v'.ownBlock = some k ∧ wr.heap.size ≤ k) := by
  obtain ⟨v', rfl, hL, hown, hO⟩ := ha
  refine ⟨v', rfl, ⟨⟨B, hL⟩, Only.belowOf h.bel hO h.bel.size h.base, fun k hk => ?_⟩, hO, hown⟩
  simp only [List.mem_cons, Option.mem_toList] at hk
  rcases hk with rfl | rfl | rfl | hk
  · exact h.base _ (by simp)
  · exact h.base _ (by simp)
  · exact h.base _ (by simp)
  · rcases hown with h1 | ⟨k2, h1, h2⟩
    · rw [h1] at hk; exact h.base k (by simp [hk])
    · rw [h1] at hk; cases hk; exact Nat.le_trans h.bel.size h2
theorem Gd.below {W wr w' : World} {q g b : Nat} {v : Value} {s : LSt} {d : DSt} (h : Gd W wr q g b v s d) (hb : Below wr.heap.size wr w') : Gd W w' q g b v s d := by
  obtain ⟨⟨B, hL⟩, h2, h3⟩ := h
  exact ⟨⟨B, hL.below hb⟩, below_trans2 h2 hb, h3⟩
/-- A text of the caller's stays where only the call's own blocks turn. -/
theorem Gd.sl {W wr w' : World} {q g b : Nat} {v : Value} {s : LSt} {d : DSt} (h : Gd W wr q g b v s d) (ho : Only (q :: g :: b :: v.ownBlock.toList) wr w') {u : Value} {xs : List Value} (hs : Sl W u xs) : Sl w' u xs :=
  hs.below (Only.belowOf h.bel ho h.bel.size h.base) (Nat.le_refl _)

set_option maxRecDepth 100000 in
set_option maxHeartbeats 8000000 in
theorem seglogRoom_walk (sectors : Int) (v : Value) (pss : List (List Int)) (n : Int) (w : World) (ht : Tabs w) (hs0 : -9223372036854775808 ≤ sectors) (hs1 : sectors ≤ 9223372036854775807) (hB : ∀ p ∈ pss, IsB p) (hS : Sls w v pss) (hn0 : -9223372036854775808 ≤ n) (hn1 : n ≤ 9223372036854775807) :
    Calls Tryd.prog 7 #[.int .i64 sectors, v, .int .i64 n] w fun e w' => e = .returned (.bool true) ∧ Below w.heap.size w w' := by
  have HT := Lib.hid ht
  have HS := Lib.hid hS
  have HBB := Lib.hid hB
  obtain ⟨va, vc, rfl, hvc, hvm⟩ := hS.shape
  obtain ⟨M, hM, hM1, hM2⟩ := mod_place sectors 80 (by omega)
  obtain ⟨R, hR, hR1, hR2⟩ := mod_place n 4000 (by omega)
  have HN := Lib.hid (dnew_ok M w hM1 (by omega))
  have HML := Lib.hid (And.intro hM1 (show M ≤ 80 by omega))
  have HRL := Lib.hid (And.intro hR1 (show R ≤ 4000 by omega))
  clear ht hS hB hM1 hM2 hR1 hR2 hs0 hs1 hn0 hn1
  go_enter Tryd.func7, Tryd.ntmps7
  go_wp2_with fail
  refine HN.out.mono ?_
  rintro e w1 ⟨g, b, rfl, hg, hb, hD, hb1⟩
  have HO := Lib.hid (open_any w1 g b _ (HT.out.below hb1) hD)
  have HB1 := Lib.hid hb1
  have HGB := Lib.hid (And.intro hg hb)
  clear hg hb hD hb1 HN
  go_wp2_with fail
  refine HO.out.mono ?_
  rintro e w2 ⟨hP, hO⟩
  obtain ⟨q, v2, rfl, hq, hv, hL⟩ := hP.ok (by rw [new_opened])
  rw [new_opened, new_log] at hL
  have hL : Lg w2 q g b w1.heap.size v2 ⟨M, 0, [], false⟩ (newD M) := hL
  have HGD := Lib.hid (show Gd w w2 q g b v2 ⟨M, 0, [], false⟩ (newD M) from ⟨⟨_, hL⟩, Only.belowOf HB1.out hO HB1.out.size (fun k hk => by
      simp at hk
      rcases hk with rfl | rfl
      · exact HGB.out.1
      · exact HGB.out.2), fun k hk => by
      simp only [List.mem_cons, Option.mem_toList] at hk
      rcases hk with rfl | rfl | rfl | hk
      · exact Nat.le_trans HB1.out.size hq
      · exact HGB.out.1
      · exact HGB.out.2
      · exact Nat.le_trans HB1.out.size (hv _ hk)⟩)
  have HSL := Lib.hid (And.intro (show M = (newD M).l.length from (new_len M).symm) (And.intro (new_calm M) (show (LSt.mk M 0 [] false).stop = false from rfl)))
  clear hP hO hq hv hL HO HGB HB1 HML
  go_wp2
  go_loopw [41] (fun i wr => ∃ (k : Nat) (v2 : Value) (s : LSt) (d : DSt), k ≤ pss.length ∧ i = .int .i64 k ∧ Hid (Gd w wr q g b v2 s d) ∧ Hid (s.secs = d.l.length ∧ d.calm ∧ s.stop = false)) (fun i _ => pss.length - (intOf i).toNat)
  case atStart => exact ⟨0, v2, ⟨M, 0, [], false⟩, newD M, by omega, rfl, HGD, Lib.hid ⟨HSL.out.1, HSL.out.2.1, rfl⟩⟩
  case round =>
    clear HGD HSL
    obtain ⟨k, v2, s, d, hk, rfl, hG, hSD⟩ := hrel
    by_cases hlt : k < pss.length
    · have hkI : (k : Int) < (pss.length : Int) := by omega
      obtain ⟨lb, lo, rfl, hlb, u, cu, hu⟩ := HS.out.at hlt
      have cu := (hG.out.bel.cell (p := ⟨lb, lo + k, none⟩) hlb).trans cu
      have HPB := Lib.hid (HBB.out _ (getD_mem hlt))
      generalize pss.getD k [] = p at *
      obtain ⟨ua, uc, rfl, huc, hum⟩ := hu.shape
      rw [List.length_map] at huc cu hu
      by_cases hk8 : k < 8
      · have hk8I : (k : Int) < 8 := by omega
        by_cases h7 : (p.length : Int) ≤ 700
        · skip
          have HUT := Lib.hid (show Sl w (.slice ua p.length uc) (p.map (Value.int .u8)) from hu)
          obtain ⟨B, hL⟩ := hG.out.lg
          have HAP := Lib.hid (append_any wr q g b B v2 s d (.slice ua p.length uc) p hL (HPB.out) (HT.out.below hG.out.bel) (hG.out.sl (Only.refl _ _) HUT.out) (fun w' ho => hG.out.sl ho HUT.out))
          have HC := Lib.hid (appD_calm (bs := p) hSD.out.2.1 hSD.out.2.2 hSD.out.1)
          clear hu hL
          go_wp2_with fail
          refine HAP.out.mono ?_
          intro e w3 hA
          obtain ⟨v3, rfl, hG3, _, _⟩ := hG.out.app hA
          have HG3 := Lib.hid hG3
          have HS3 := Lib.hid (show (appD s d p).s.secs = (appD s d p).d.l.length ∧ (appD s d p).d.calm ∧ (appD s d p).s.stop = false from
            ⟨by rw [HC.out.2.2.1, HC.out.2.2.2.1]; exact hSD.out.1, HC.out.1, HC.out.2.1⟩)
          generalize (appD s d p).e = er at *
          clear hA hG3 HAP HC
          go_wp2
          go_roundw
          case rel => exact ⟨k + 1, v3, _, _, hlt, by go_num, HG3, HS3⟩
          case measure => simp [intOf]; omega
        · have h7b : (700 : Int) < (p.length : Int) := by omega
          have h7c : (700 : Int) ≤ (uc : Int) := by omega
          have hl7 : 700 ≤ (p.map (Value.int .u8)).length := by rw [List.length_map]; omega
          have HL7 := Lib.hid hl7
          clear hl7 h7
          have HUT := Lib.hid (show Sl w (.slice ua 700 uc) ((p.take 700).map (Value.int .u8)) from by rw [List.map_take]; exact hu.take 700 HL7.out)
          obtain ⟨B, hL⟩ := hG.out.lg
          have HAP := Lib.hid (append_any wr q g b B v2 s d (.slice ua 700 uc) (p.take 700) hL (HPB.out.take 700) (HT.out.below hG.out.bel) (hG.out.sl (Only.refl _ _) HUT.out) (fun w' ho => hG.out.sl ho HUT.out))
          have HC := Lib.hid (appD_calm (bs := (p.take 700)) hSD.out.2.1 hSD.out.2.2 hSD.out.1)
          clear hu hL
          go_wp2_with fail
          refine HAP.out.mono ?_
          intro e w3 hA
          obtain ⟨v3, rfl, hG3, _, _⟩ := hG.out.app hA
          have HG3 := Lib.hid hG3
          have HS3 := Lib.hid (show (appD s d (p.take 700)).s.secs = (appD s d (p.take 700)).d.l.length ∧ (appD s d (p.take 700)).d.calm ∧ (appD s d (p.take 700)).s.stop = false from
            ⟨by rw [HC.out.2.2.1, HC.out.2.2.2.1]; exact hSD.out.1, HC.out.1, HC.out.2.1⟩)
          generalize (appD s d (p.take 700)).e = er at *
          clear hA hG3 HAP HC
          go_wp2
          go_roundw
          case rel => exact ⟨k + 1, v3, _, _, hlt, by go_num, HG3, HS3⟩
          case measure => simp [intOf]; omega
      · have hk8I : ¬ (k : Int) < 8 := by omega
        clear hu
        go_wp2
        go_roundw
        case rel => exact ⟨k + 1, v2, s, d, hlt, by go_num, hG, hSD⟩
        case measure => simp [intOf]; omega
    · obtain rfl : k = pss.length := by omega
      have hkI : ¬ (pss.length : Int) < (pss.length : Int) := by omega
      have HWR := Lib.hid hG.out.bel.size
      have hbA : Below wr.heap.size wr (wr.alloc (.cells #[.int .u8 5] 5)) := (Below.refl _ _).alloc (Nat.le_refl _) _
      have hs5 := Sl.lit wr #[.int .u8 5] 5 (by simp [maxLen])
      have HRP := Lib.hid (repeat_any 5 R (.slice (some ⟨wr.heap.size, 0, none⟩) 1 1) _ HRL.out.1 (by have := HRL.out.2; omega) hs5)
      obtain ⟨B0, hL0⟩ := hG.out.lg
      have HLTS := Lib.hid hL0.lts
      have HBA := Lib.hid hbA
      clear hs5 hbA hL0 B0
      have hszA : (wr.alloc (.cells #[.int .u8 5] 5)).heap.size = wr.heap.size + 1 := by simp
      have HSZA := Lib.hid hszA
      clear hszA
      go_wp2_with fail
      refine HRP.out.mono ?_
      rintro e w3 ⟨rfl, hx3, ⟨cur3, k3⟩, hb3⟩
      rw [HSZA.out] at hx3 k3 ⊢
      have HG3 := Lib.hid (hG.out.below (below_trans2 HBA.out hb3))
      have HX3 := Lib.hid hx3
      have HK3 := Lib.hid k3
      have HSZ3 := Lib.hid (show wr.heap.size + 1 ≤ w3.heap.size from by have := hb3.size; rw [HSZA.out] at this; exact this)
      clear hx3 k3 hb3 HRP HBA hG
      obtain ⟨B, hL3⟩ := HG3.out.lg
      have HRO := Lib.hid (lroom_any w3 q g b B v2 s d hL3)
      have HFI := Lib.hid (room_fits (s := s) (bs := List.replicate R 5) hL3.fin (by rw [List.length_replicate]; exact HRL.out.1) (by rw [List.length_replicate]; exact HRL.out.2))
      rw [List.length_replicate] at HFI
      have HSHT := Lib.hid hL3.short
      clear hL3
      go_wp2_with fail
      refine HRO.out.mono ?_
      rintro e w4 ⟨rfl, hb4⟩
      have HG4 := Lib.hid (HG3.out.below hb4)
      have HX4 := Lib.hid (HX3.out.below hb4 (Nat.le_refl _))
      have HK4 := Lib.hid (HK3.out.belowS hb4)
      have HSZ4 := Lib.hid (show wr.heap.size + 1 ≤ w4.heap.size from Nat.le_trans HSZ3.out hb4.size)
      clear hb4 HRO HG3 HX3 HK3 HSZ3
      obtain ⟨B4, hL4⟩ := HG4.out.lg
      have HRE := Lib.hid (lrecords_any w4 q g b B4 v2 s d hL4)
      clear hL4
      go_wp2_with fail
      refine HRE.out.mono ?_
      rintro e w5 ⟨xr, rfl, hxr, hb5⟩
      obtain ⟨ra, rc, rfl⟩ := hxr.val
      have HR5 := Lib.hid hxr
      have HG5 := Lib.hid (HG4.out.below hb5)
      have HX5 := Lib.hid (HX4.out.below hb5 (Nat.le_refl _))
      have HK5 := Lib.hid (HK4.out.belowS hb5)
      have HSZ5 := Lib.hid hb5.size
      clear hxr hb5 HRE HX4 HK4 HG4
      obtain ⟨B5, hL5⟩ := HG5.out.lg
      have HIM := Lib.hid (dimage_any w5 g b d hL5.dev)
      clear hL5
      go_wp2_with fail
      refine HIM.out.mono ?_
      rintro e w6 ⟨xi, rfl, hxi, hb6⟩
      obtain ⟨ia, ic, rfl⟩ := hxi.val
      have HI6 := Lib.hid (show OBs w6 w5.heap.size (.slice ia (d.l.map Sec.now).length ic) d.img from hxi)
      have HR6 := Lib.hid (HR5.out.below hb6)
      have HG6 := Lib.hid (HG5.out.below hb6)
      have HX6 := Lib.hid (HX5.out.below hb6 (Nat.le_refl _))
      have HK6 := Lib.hid (HK5.out.belowS hb6)
      clear hxi hb6 HIM HX5 HK5 HG5 HR5
      rw [List.length_map]
      rw [List.length_map] at HI6
      obtain ⟨B6, hL6⟩ := HG6.out.lg
      have HB5 := Lib.hid (show IsB (List.replicate R (5 : Int)) from fun x hx => by obtain ⟨_, rfl⟩ := List.mem_replicate.1 hx; omega)
      have HFAR := Lib.hid (show wr.heap.size + 1 ∉ q :: g :: b :: v2.ownBlock.toList from fun hm => by have := HLTS.out _ hm; omega)
      have HAP := Lib.hid (append_any w6 q g b B6 v2 s d _ (List.replicate R 5) hL6 HB5.out (HT.out.below HG6.out.bel) HX6.out (fun w' ho => HX6.out.far ho HFAR.out))
      have HNTX := Lib.hid hL6.noText
      have HIB := Lib.hid (And.intro hL6.isB (img_B hL6.dev.ok))
      have hcnt6 : s.l.length ≤ 16384 := by have := hL6.dev.pos.2; have := hL6.secs; have := hL6.cnt; have := hL6.fin; omega
      have HCNT := Lib.hid hcnt6
      clear hL6 hcnt6
      go_wp2_with fail
      refine HAP.out.mono ?_
      intro e w7 hA
      obtain ⟨v7, rfl, hG7, hO7, hown7⟩ := HG6.out.app hA
      have HG7 := Lib.hid hG7
      have HW7 := Lib.hid (HR6.out.only2 hO7 HNTX.out (fun k hk hm => by have h1 := (HR6.out.low hk).1; have h2 := HLTS.out _ hm; have h3 := HSZ4.out; omega))
      have HI7 := Lib.hid (HI6.out.only2 hO7 HNTX.out (fun k hk hm => by have h1 := (HI6.out.low hk).1; have h2 := HLTS.out _ hm; have h3 := HSZ4.out; have h4 := HSZ5.out; omega))
      have HX7 := Lib.hid (HX6.out.far hO7 HFAR.out)
      have HK7 := Lib.hid (hO7.blk HK6.out HFAR.out)
      clear hA hG7 hO7 hown7 HAP HR6 HI6 HX6 HK6 HG6 HNTX
      have HC := Lib.hid (appD_calm (bs := List.replicate R 5) hSD.out.2.1 hSD.out.2.2 hSD.out.1)
      rw [List.length_replicate] at HC
      by_cases hft : fits s (List.replicate R 5)
      · have hroom : (R : Int) ≤ roomI s := HFI.out.1 hft
        have he := (HC.out.2.2.2.2.1 ⟨HRL.out.1, HRL.out.2, hft⟩).1
        have hse := (HC.out.2.2.2.2.1 ⟨HRL.out.1, HRL.out.2, hft⟩).2
        rw [he]
        obtain ⟨B7, hL7⟩ := HG7.out.lg
        have HRE := Lib.hid (lrecords_any w7 q g b B7 v7 _ _ hL7)
        rw [hse] at HRE
        have HRE := Lib.hid (show Calls Tryd.prog 12 #[.pointer (some ⟨q, 0, none⟩)] w7 fun e w' => ∃ x, e = .returned x ∧ OBs w' w7.heap.size x (s.l ++ [List.replicate R 5]) ∧ Below w7.heap.size w7 w' from HRE.out)
        clear hft he hse hL7 HFI HC hSD
        have HISB := Lib.hid (show ∀ p ∈ s.l ++ [List.replicate R (5 : Int)], IsB p from fun p hp => by
          rcases List.mem_append.1 hp with h1 | h1
          · exact HIB.out.1 p h1
          · rw [List.mem_singleton.1 h1]; exact HB5.out)
        generalize roomI s = room at *
        go_wp2_with fail
        refine HRE.out.mono ?_
        rintro e w8 ⟨x8, rfl, hx8, hb8⟩
        obtain ⟨ya, yn, yc, rfl⟩ : ∃ a n c, x8 = Value.slice a n c := (by obtain ⟨a, c, e⟩ := hx8.val; exact ⟨a, _, c, e⟩)
        have hbB : Below w8.heap.size w8 (w8.alloc (.cells #[.slice (some ⟨wr.heap.size + 1, 0, none⟩) R R] 26)) := (Below.refl _ _).alloc (Nat.le_refl _) _
        have HB9 := Lib.hid (below_trans2 hb8 hbB)
        have HWS := Lib.hid (show w.heap.size ≤ wr.heap.size + 1 from by have := HWR.out; omega)
        have HW9 := Lib.hid ((((HW7.out.below hb8).below hbB).tbs (fun p hp => HSHT.out p hp |>.1)).base (show w.heap.size ≤ w4.heap.size from by have := HSZ4.out; have := HWR.out; omega))
        have HU9 := Lib.hid (TB.ofSl (base := w.heap.size) (((HX7.out.below hb8 (Nat.le_refl _)).below hbB (Nat.le_refl _))) ((HK7.out.belowS hb8).belowS hbB) (by rw [List.length_replicate]; exact HRL.out.1) HWS.out)
        have HC9 := Lib.hid ((Blk.new w8 26 #[.slice (some ⟨wr.heap.size + 1, 0, none⟩) R R]).cell 0)
        have HY9 := Lib.hid (hx8.below hbB)
        have HBW9 := Lib.hid (below_trans2 (below_trans2 HG7.out.bel hb8) hbB)
        have HLW := Lib.hid (show ∀ k, (Value.slice ra s.l.length rc).ownBlock = some k → k < w7.heap.size from fun k hk => (HW7.out.low hk).2)
        have HL1 := Lib.hid (show s.l.length + 1 ≤ 5000000000000 from by have := HCNT.out; omega)
        clear hx8 hb8 hbB HRE
        go_wp2_with (at_builtin; refine wpList_append_tbW (by rfl) _ _ rfl w.heap.size (.slice ra s.l.length rc) s.l rfl HW9.out w8.heap.size 1 rfl (.slice (some ⟨wr.heap.size + 1, 0, none⟩) R R) HC9.out (List.replicate R 5) HU9.out HL1.out HBW9.out.size ?_)
        intro v10 w10 hr10 hb10 hg10
        have ho10 : Only (Value.slice ra s.l.length rc).ownBlock.toList (w8.alloc (.cells #[.slice (some ⟨wr.heap.size + 1, 0, none⟩) R R] 26)) w10 := ⟨hg10.os, hg10.tape, hg10.output, hg10.size, fun k hk hn => hg10.block k hk fun e => hn (by simp [← e])⟩
        have hy10 := HY9.out.only2 ho10 HW9.out.noText (fun k hk hm => by have h1 := (HY9.out.low hk).1; have h2 := HLW.out k (by simpa using hm); omega)
        obtain ⟨za, zn, zc, hz⟩ : ∃ a n c, v10 = Value.slice a n c := (by obtain ⟨a, c, e⟩ := hr10.val; exact ⟨a, _, c, e⟩)
        have HEQ := Lib.hid (sameTexts_any _ v10 _ _ w10 hy10.sls hr10.sls HISB.out HISB.out)
        rw [decide_eq_true rfl] at HEQ
        have HBW10 := Lib.hid (HBW9.out.trans hb10)
        have HAW := Lib.hid (awake08_any w10 (HT.out.below HBW10.out))
        subst hz
        clear hr10 hb10 hg10 ho10 hy10
        go_wp2_with fail
        refine HEQ.out.mono ?_
        rintro e w11 ⟨rfl, rfl⟩
        go_wp2_with fail
        refine HAW.out.mono ?_
        rintro e w12 ⟨rfl, hb12⟩
        have HB12 := Lib.hid (below_trans2 HBW10.out hb12)
        clear hb12
        go_wp2
        go_ret
        exact ⟨rfl, HB12.out⟩
      · have hroom : (roomI s) < (R : Int) := by have := mt HFI.out.2 hft; omega
        have hap := HC.out.2.2.2.2.2.1 ⟨HRL.out.1, HRL.out.2, hft⟩
        rw [hap] at HG7 ⊢
        obtain ⟨B7, hL7⟩ := HG7.out.lg
        have HRE := Lib.hid (lrecords_any w7 q g b B7 v7 s d hL7)
        clear hft hap hL7 HFI HC hSD
        generalize roomI s = room at *
        go_wp2_with fail
        refine HRE.out.mono ?_
        rintro e w8 ⟨x8, rfl, hx8, hb8⟩
        obtain ⟨ya, yc, rfl⟩ := hx8.val
        have HEQ := Lib.hid (sameTexts_any _ _ _ _ w8 hx8.sls (HW7.out.below hb8).sls HIB.out.1 HIB.out.1)
        rw [decide_eq_true rfl] at HEQ
        have HG8 := Lib.hid (HG7.out.below hb8)
        have HI8 := Lib.hid (HI7.out.below hb8)
        clear hx8 hb8 HRE HW7 HI7 HG7
        go_wp2_with fail
        refine HEQ.out.mono ?_
        rintro e w9 ⟨rfl, rfl⟩
        obtain ⟨B8, hL8⟩ := HG8.out.lg
        have HIM := Lib.hid (dimage_any w8 g b d hL8.dev)
        clear hL8 HEQ
        go_wp2_with fail
        refine HIM.out.mono ?_
        rintro e w9 ⟨x9, rfl, hx9, hb9⟩
        have hx9 : OBs w9 w8.heap.size x9 d.img := hx9
        obtain ⟨za, zc, hz⟩ := hx9.val
        have HEQ := Lib.hid (sameTexts_any _ _ _ _ w9 hx9.sls (HI8.out.below hb9).sls HIB.out.2 HIB.out.2)
        rw [decide_eq_true rfl] at HEQ
        have HB9 := Lib.hid (below_trans2 HG8.out.bel hb9)
        have HAW := Lib.hid (awake08_any w9 (HT.out.below HB9.out))
        subst hz
        clear hx9 hb9 HIM HG8 HI8
        go_wp2_with fail
        refine HEQ.out.mono ?_
        rintro e w10 ⟨rfl, rfl⟩
        go_wp2_with fail
        refine HAW.out.mono ?_
        rintro e w12 ⟨rfl, hb12⟩
        have HB12 := Lib.hid (below_trans2 HB9.out hb12)
        clear hb12
        go_wp2
        go_ret
        exact ⟨rfl, HB12.out⟩

end Go.Proofs.YtgfkejecigefbaaDoor

namespace Go.Proofs.YtgfkejecigefbaaDoor
open Go.RowKit
set_option linter.unusedVariables false

/-- What holds of each sector, as it is and as it was synced. -/
def AllP (d : DSt) (P : Nat → List Int → Prop) : Prop := ∀ i s, d.l[i]? = some s → P i s.now ∧ P i s.kept
theorem AllP.chg {d : DSt} {P : Nat → List Int → Prop} (h : AllP d P) : AllP d.chg P := by unfold AllP; rw [chg_l]; exact h
theorem AllP.mono {d : DSt} {P Q : Nat → List Int → Prop} (h : AllP d P) (hq : ∀ i p, P i p → Q i p) : AllP d Q := fun i s hi => ⟨hq _ _ (h i s hi).1, hq _ _ (h i s hi).2⟩
theorem AllP.wrote {d : DSt} {P : Nat → List Int → Prop} (h : AllP d P) {i : Nat} {p : List Int} (hp : P i p) : AllP (d.wrote i p) P := by
  unfold DSt.wrote
  split
  · split
    · exact h.chg
    · intro j s hj
      cases hq : d.l[j]? with
      | none => rw [List.getElem?_modify, hq] at hj; cases hj
      | some s0 =>
        rw [List.getElem?_modify, hq] at hj
        have h0 := h j s0 hq
        by_cases e : i = j
        · subst e
          have e2 : s0.wrote p = s := by simpa using hj
          subst e2
          exact ⟨hp, h0.2⟩
        · have e2 : s0 = s := by simpa [e] using hj
          subst e2
          exact h0
  · exact h
theorem AllP.synced {d : DSt} {P : Nat → List Int → Prop} (h : AllP d P) : AllP d.synced P := by
  unfold DSt.synced
  split
  · exact h.chg
  · intro j s hj
    rw [List.getElem?_mapIdx] at hj
    cases hq : d.l[j]? with
    | none => rw [hq] at hj; cases hj
    | some s0 =>
      rw [hq] at hj
      cases hj
      exact ⟨(h j s0 hq).1, (h j s0 hq).1⟩
theorem AllP.fuse {d : DSt} {P : Nat → List Int → Prop} (h : AllP d P) (n : Int) : AllP (d.fuse n) P := by
  unfold DSt.fuse
  split
  · exact h
  · exact h
theorem AllP.crash {d : DSt} {P : Nat → List Int → Prop} (h : AllP d P) (keep : List Int) : AllP (d.crash keep) P := by
  intro j s hj
  have hj : (crashL d.l keep)[j]? = some s := hj
  unfold crashL at hj
  rw [List.getElem?_mapIdx] at hj
  cases hq : d.l[j]? with
  | none => rw [hq] at hj; cases hj
  | some s0 =>
    rw [hq] at hj
    cases hj
    have h0 := h j s0 hq
    unfold crF
    split
    · unfold crS
      split
      · exact ⟨h0.2, h0.2⟩
      · exact ⟨h0.1, h0.1⟩
    · exact h0
theorem crash_settled {d : DSt} (h : ∀ s ∈ d.l, s.ok) (keep : List Int) : ∀ s ∈ (d.crash keep).l, s.now = s.kept := by
  intro s hs
  obtain ⟨i, hi, rfl⟩ := List.mem_mapIdx.1 (show s ∈ crashL d.l keep from hs)
  have h0 := h _ (List.getElem_mem hi)
  unfold crF
  split
  · unfold crS
    split <;> rfl
  · rename_i hw
    refine h0.2.2.2.2 ?_
    simpa using hw
theorem AllP.putW {P : Nat → List Int → Prop} : ∀ (ss : List (List Int)) (i : Nat) (d : DSt), AllP d P → (∀ j p, ss[j]? = some p → P (i + j) p) → AllP (putW ss i d).1 P
  | [], i, d, h, _ => h.synced
  | s :: r, i, d, h, hp => by
    rw [Go.Proofs.YtgfkejecigefbaaDoor.putW]
    split
    · exact AllP.putW r (i + 1) _ (h.wrote (hp 0 s rfl)) (fun j p hj => by
        have := hp (j + 1) p (by simpa using hj)
        rwa [show i + 1 + j = i + (j + 1) by omega])
    · exact h.wrote (hp 0 s rfl)
theorem AllP.wipe {P : Nat → List Int → Prop} : ∀ (ss : List (List Int)) (i : Nat) (x : Bool) (d : DSt), AllP d P → (∀ j, i ≤ j → P j zS) → AllP (wipeD ss i x d).1 P
  | [], i, x, d, h, _ => by
    rw [wipeD]
    split
    · exact h.synced
    · exact h
  | s :: r, i, x, d, h, hp => by
    rw [wipeD]
    split
    · exact AllP.wipe r (i + 1) x d h (fun j hj => hp j (by omega))
    · split
      · exact AllP.wipe r (i + 1) true _ (h.wrote (hp i (Nat.le_refl _))) (fun j hj => hp j (by omega))
      · exact h.wrote (hp i (Nat.le_refl _))

theorem chgE_or (d : DSt) : d.chgE = 0 ∨ d.chgE = 70 := by unfold DSt.chgE; split <;> simp
theorem wrE_or (d : DSt) {i : Nat} {s : List Int} (hi : i < d.l.length) (hs : s.length = 64) : d.wrE i s = 0 ∨ d.wrE i s = 70 := by
  unfold DSt.wrE DSt.has
  rw [if_pos (decide_eq_true (by omega)), if_pos hs]
  exact chgE_or d
theorem putW_or : ∀ (ss : List (List Int)) (i : Nat) (d : DSt), (∀ p ∈ ss, p.length = 64) → i + ss.length ≤ d.l.length → (putW ss i d).2 = 0 ∨ (putW ss i d).2 = 70
  | [], i, d, _, _ => chgE_or d
  | s :: r, i, d, h64, hl => by
    rw [List.length_cons] at hl
    rw [putW]
    split
    · exact putW_or r (i + 1) _ (fun p hp => h64 p (by simp [hp])) (by rw [wrote_len]; omega)
    · exact wrE_or d (by omega) (h64 s (by simp))
theorem wipeD_or : ∀ (ss : List (List Int)) (i : Nat) (x : Bool) (d : DSt), i + ss.length ≤ d.l.length → (wipeD ss i x d).2 = 0 ∨ (wipeD ss i x d).2 = 70
  | [], i, x, d, _ => by
    rw [wipeD]; split
    · exact chgE_or d
    · exact .inl rfl
  | s :: r, i, x, d, hl => by
    rw [List.length_cons] at hl
    rw [wipeD]
    split
    · exact wipeD_or r (i + 1) x d (by omega)
    · split
      · exact wipeD_or r (i + 1) true _ (by rw [wrote_len]; omega)
      · exact wrE_or d (by omega) zS_len
theorem wipeD_calm : ∀ (ss : List (List Int)) (i : Nat) (x : Bool) (d : DSt), d.calm → i + ss.length ≤ d.l.length → (wipeD ss i x d).2 = 0
  | [], i, x, d, h, _ => by
    rw [wipeD]; split
    · exact h.chgE
    · rfl
  | s :: r, i, x, d, h, hl => by
    rw [List.length_cons] at hl
    rw [wipeD]
    split
    · exact wipeD_calm r (i + 1) x d h (by omega)
    · rw [if_pos (h.wrE (by omega) zS_len)]
      exact wipeD_calm r (i + 1) true _ (h.wrote _ _) (by rw [wrote_len]; omega)

/-- Sectors laid over others. -/
def overP (i : Nat) (ss : List (List Int)) (P : Nat → List Int → Prop) : Nat → List Int → Prop := fun j q => if i ≤ j ∧ j < i + ss.length then ss[j - i]? = some q else P j q
def NowP (d : DSt) (P : Nat → List Int → Prop) : Prop := ∀ i s, d.l[i]? = some s → P i s.now
theorem chgE_stops {d : DSt} (h : d.chgE = 0) : d.stops = false := by
  unfold DSt.chgE at h
  split at h
  · cases h
  · rename_i hs; simpa using hs
theorem NowP.wrote {d : DSt} {P : Nat → List Int → Prop} (h : NowP d P) {i : Nat} {p : List Int} (he : d.wrE i p = 0) : NowP (d.wrote i p) (fun j q => if j = i then q = p else P j q) := by
  have hh : d.has (i : Int) = true ∧ p.length = 64 ∧ d.chgE = 0 := by
    unfold DSt.wrE at he
    split at he
    · split at he
      · exact ⟨by assumption, by assumption, he⟩
      · cases he
    · cases he
  unfold DSt.wrote
  rw [if_pos ⟨hh.1, hh.2.1⟩, if_neg (by rw [chgE_stops hh.2.2]; decide)]
  intro j s hj
  cases hq : d.l[j]? with
  | none => rw [List.getElem?_modify, hq] at hj; cases hj
  | some s0 =>
    rw [List.getElem?_modify, hq] at hj
    have h0 := h j s0 hq
    by_cases e : i = j
    · subst e
      have e2 : s0.wrote p = s := by simpa using hj
      subst e2
      rw [if_pos rfl]; rfl
    · have e2 : s0 = s := by simpa [e] using hj
      subst e2
      rw [if_neg (fun q => e q.symm)]; exact h0
theorem putW_exact : ∀ (ss : List (List Int)) (i : Nat) (d : DSt) (P : Nat → List Int → Prop), NowP d P → (putW ss i d).2 = 0 → AllP (putW ss i d).1 (overP i ss P)
  | [], i, d, P, h, he => by
    have he : d.chgE = 0 := he
    show AllP d.synced _
    unfold DSt.synced
    rw [if_neg (by rw [chgE_stops he]; decide)]
    intro j s hj
    rw [List.getElem?_mapIdx] at hj
    cases hq : d.l[j]? with
    | none => rw [hq] at hj; cases hj
    | some s0 =>
      rw [hq] at hj
      cases hj
      have h0 := h j s0 hq
      have hn : ¬ (i ≤ j ∧ j < i + ([] : List (List Int)).length) := by simp
      unfold overP
      rw [if_neg hn, if_neg hn]
      exact ⟨h0, h0⟩
  | s :: r, i, d, P, h, he => by
    rw [putW] at he ⊢
    split at he
    · rename_i hw
      rw [if_pos hw]
      refine (putW_exact r (i + 1) _ _ (h.wrote hw) he).mono fun j q hq => ?_
      unfold overP at hq ⊢
      rw [List.length_cons]
      by_cases h1 : i + 1 ≤ j ∧ j < i + 1 + r.length
      · rw [if_pos h1] at hq
        rw [if_pos (by omega), show j - i = (j - (i + 1)) + 1 by omega, List.getElem?_cons_succ]
        exact hq
      · rw [if_neg h1] at hq
        by_cases h2 : j = i
        · rw [if_pos h2] at hq
          rw [if_pos (by omega), h2, Nat.sub_self, hq]; rfl
        · rw [if_neg h2] at hq
          rw [if_neg (by omega)]; exact hq
    · exact absurd he (by assumption)

end Go.Proofs.YtgfkejecigefbaaDoor

namespace Go.Proofs.YtgfkejecigefbaaDoor
open Go.RowKit
set_option linter.unusedVariables false

theorem range_succ_map {α : Type} (f : Nat → α) (n : Nat) : (List.range (n + 1)).map f = f 0 :: (List.range n).map fun k => f (k + 1) := by
  rw [List.range_succ_eq_map, List.map_cons, List.map_map]; rfl
theorem cut64_cons {x : List Int} (h : 0 < x.length) : cut64 x = padTo 64 (x.take 64) :: cut64 (x.drop 64) := by
  have e : parts64 x.length = parts64 (x.drop 64).length + 1 := by rw [List.length_drop]; unfold parts64; omega
  unfold cut64
  rw [e, range_succ_map]
  congr 1
  · unfold pieceI; rw [Nat.mul_zero, List.drop_zero, padTo_take]
  · refine List.map_congr_left fun k _ => ?_
    unfold pieceI
    rw [List.drop_drop]
    congr 2
    omega
theorem cut64_nil : cut64 [] = [] := rfl
/-- The sectors' bytes begin with the text. -/
theorem cut64_flat : ∀ (n : Nat) (x : List Int), x.length ≤ n → (cut64 x).flatten.take x.length = x
  | 0, x, h => by
    obtain rfl : x = [] := List.eq_nil_of_length_eq_zero (by omega)
    rfl
  | n + 1, x, h => by
    by_cases h0 : 0 < x.length
    · rw [cut64_cons h0, List.flatten_cons]
      by_cases h1 : x.length ≤ 64
      · have hd : x.drop 64 = [] := List.drop_eq_nil_of_le h1
        rw [hd, cut64_nil, List.flatten_nil, List.append_nil]
        unfold padTo
        rw [List.take_take, Nat.min_self, List.take_of_length_le h1, List.take_append_of_le_length (Nat.le_refl _), List.take_length]
      · have ih := cut64_flat n (x.drop 64) (by rw [List.length_drop]; omega)
        have hl : (padTo 64 (x.take 64)).length = 64 := padTo_len _ _
        have hp : padTo 64 (x.take 64) = x.take 64 := by
          unfold padTo
          rw [List.take_take, Nat.min_self, List.length_take, Nat.min_eq_left (by omega)]
          simp
        rw [List.take_append, hl, List.take_of_length_le (by rw [hl]; omega), hp]
        rw [List.length_drop] at ih
        rw [ih, List.take_append_drop]
    · obtain rfl : x = [] := List.eq_nil_of_length_eq_zero (by omega)
      rfl

theorem textS_first {n : Int} {bs : List Int} {R : List (List Int)} : ((laidI n bs ++ R).getD 0 []) = padTo 64 (headT n bs) := by
  unfold laidI textS
  rw [cut64_cons (by rw [headT_len]; omega)]
  show padTo 64 ((headT n bs).take 64) = _
  exact padTo_take _ _
theorem lenAt_first {p : List Int} {R img : List (List Int)} {n : Int} {bs : List Int} (hl : bs.length ≤ 4000) (h : img.getD 0 [] = padTo 64 (headT n bs)) : lenAt img = bs.length := by
  unfold lenAt
  rw [h]
  have e : ((padTo 64 (headT n bs)).drop 8).take 4 = fourI bs.length := by
    have hh : headT n bs = numI n ++ (fourI bs.length ++ bs) := rfl
    have hlen := headT_len n bs
    unfold padTo
    have h12 : ((headT n bs).take 64).drop 8 = (fourI (bs.length : Nat) ++ bs).take 56 := by
      rw [List.drop_take, hh, List.drop_append_of_le_length (by rw [numI_len]; exact Nat.le_refl _), show (numI n).drop 8 = [] from List.drop_eq_nil_of_le (by rw [numI_len]; exact Nat.le_refl _)]
      rfl
    rw [List.drop_append_of_le_length (by rw [List.length_take]; omega), h12, List.take_append_of_le_length (by rw [List.length_take, List.length_append, fourI_len]; omega), List.take_take, Nat.min_eq_left (by omega), List.take_append_of_le_length (by rw [fourI_len]; exact Nat.le_refl _), List.take_of_length_le (by rw [fourI_len]; exact Nat.le_refl _)]
  rw [e]
  exact valI_four _ (by omega) (by omega)
theorem secsOf_len {bs : List Int} (hl : bs.length ≤ 4000) : secsOf (bs.length : Nat) = (75 + bs.length) / 64 := by unfold secsOf; omega
theorem body_laid {n : Int} {bs : List Int} {R : List (List Int)} (hl : bs.length ≤ 4000) : bodyI (laidI n bs ++ R) = bs := by
  have h1 : lenAt (laidI n bs ++ R) = bs.length := lenAt_first (p := []) (R := R) hl textS_first
  unfold bodyI
  rw [h1, secsOf_len hl]
  have h2 : (laidI n bs ++ R).take ((75 + bs.length) / 64) = textS n bs := by
    unfold laidI
    rw [← textS_len n bs, List.append_assoc, List.take_left]
  rw [h2]
  have h3 := cut64_flat _ (headT n bs) (Nat.le_refl _)
  have h4 : (textS n bs).flatten.length = 64 * ((75 + bs.length) / 64) := by rw [flat64_len (textS_64 n bs), textS_len]
  have h5 : ((textS n bs).flatten.drop 12).take bs.length = ((textS n bs).flatten.take (12 + bs.length)).drop 12 := by rw [List.drop_take]; congr 1; omega
  show ((textS n bs).flatten.drop 12).take ((bs.length : Int)).toNat = bs
  rw [Int.toNat_natCast, h5]
  have h6 : (textS n bs).flatten.take (12 + bs.length) = headT n bs := by rw [← headT_len n bs]; exact h3
  rw [h6]
  show (numI n ++ (fourI bs.length ++ bs)).drop 12 = bs
  rw [← List.append_assoc, List.drop_left' (by rw [List.length_append, numI_len, fourI_len])]
/-- A record's sectors are read. -/
theorem next_laid {n : Int} {bs : List Int} {R : List (List Int)} (h1 : 1 ≤ bs.length) (hl : bs.length ≤ 4000) : nextI (laidI n bs ++ R) n = some (bs, (laidI n bs).length) := by
  have hb := body_laid (n := n) (R := R) hl
  have ha : lenAt (laidI n bs ++ R) = bs.length := lenAt_first (p := []) (R := R) hl textS_first
  unfold nextI nextOk
  rw [hb, decide_eq_true ⟨⟨by rw [ha]; omega, by rw [ha]; omega, by rw [ha, secsOf_len hl, List.length_append, laidI_len]; omega⟩, by rw [List.take_left]⟩]
  rfl
/-- Where the mark is missing, nothing is read. -/
def Torn (TX Y : List (List Int)) : Prop := ∀ (i : Nat) (p : List Int), Y[i]? = some p → p = zS ∨ TX[i]? = some p
theorem mark_not_zero (n : Int) (t : List (List Int)) : pieceI (markB n t) 0 ≠ zS := by
  intro e
  have h : (pieceI (markB n t) 0)[0]? = some 65 := by
    unfold pieceI padTo markB alB
    rfl
  rw [e] at h
  unfold zS at h
  rw [List.getElem?_replicate, if_pos (by omega)] at h
  cases h
theorem next_torn {n : Int} {bs : List Int} {Y : List (List Int)} (hl : bs.length ≤ 4000) (hY : Torn (textS n bs) Y) (h64 : ∀ p ∈ Y, p.length = 64) : nextI Y n = none := by
  unfold nextI
  rw [if_neg]
  intro hk
  unfold nextOk at hk
  rw [decide_eq_true_eq] at hk
  obtain ⟨hf, he⟩ := hk
  obtain ⟨f1, f2, f3⟩ := hf
  have hp : 0 < Y.length := by omega
  have hbl := bodyI_len h64 ⟨f1, f2, f3⟩
  -- the first sector is the text's own
  have h0 : Y[0]? = some (Y.getD 0 []) := by rw [List.getD_eq_getElem?_getD, List.getElem?_eq_getElem hp]; rfl
  have hla : lenAt Y = bs.length := by
    rcases hY 0 _ h0 with hz | ht
    · exfalso
      have : lenAt Y = 0 := by unfold lenAt; rw [hz]; decide
      omega
    · refine lenAt_first (p := []) (R := []) (n := n) hl ?_
      unfold textS at ht
      rw [cut64_cons (by rw [headT_len]; omega)] at ht
      have ht : padTo 64 ((headT n bs).take 64) = Y.getD 0 [] := by simpa using ht
      rw [← ht, padTo_take]
  have hbb : (bodyI Y).length = bs.length := by rw [hbl, hla]; simp
  have hT : (textS n (bodyI Y)).length = (75 + bs.length) / 64 := by rw [textS_len, hbb]
  have hm : (laidI n (bodyI Y))[(75 + bs.length) / 64]? = some (pieceI (markB n (textS n (bodyI Y))) 0) := by
    unfold laidI
    rw [List.getElem?_append_right (by rw [hT]; exact Nat.le_refl _), hT, Nat.sub_self]
    unfold cut64
    rw [show parts64 (markB n (textS n (bodyI Y))).length = 1 from by rw [markB_len]; decide]
    rfl
  rw [he] at hm
  have hm2 : Y[(75 + bs.length) / 64]? = some (pieceI (markB n (textS n (bodyI Y))) 0) := by
    rw [List.getElem?_take] at hm
    split at hm
    · exact hm
    · cases hm
  rcases hY _ _ hm2 with hz | ht
  · exact mark_not_zero _ _ hz
  · rw [List.getElem?_eq_none (by rw [textS_len]; exact Nat.le_refl _)] at ht
    cases ht

end Go.Proofs.YtgfkejecigefbaaDoor

namespace Go.Proofs.YtgfkejecigefbaaDoor
open Go.RowKit
set_option linter.unusedVariables false

def laidFrom (k : Nat) : List (List Int) → List (List Int)
  | [] => []
  | b :: r => laidI (k : Int) b ++ laidFrom (k + 1) r
def logL (L : List (List Int)) : List (List Int) := laidFrom 1 L
theorem laidFrom_snoc : ∀ (k : Nat) (L : List (List Int)) (b : List Int), laidFrom k (L ++ [b]) = laidFrom k L ++ laidI ((k + L.length : Nat) : Int) b
  | k, [], b => by simp [laidFrom]
  | k, x :: r, b => by
    rw [List.cons_append, laidFrom, laidFrom_snoc (k + 1) r b, laidFrom, List.append_assoc, List.length_cons]
    congr 3
    omega
theorem logL_snoc (L : List (List Int)) (b : List Int) : logL (L ++ [b]) = logL L ++ laidI ((L.length : Int) + 1) b := by
  unfold logL
  rw [laidFrom_snoc]
  congr 2
  omega
theorem laidFrom_64 : ∀ (k : Nat) (L : List (List Int)), ∀ p ∈ laidFrom k L, p.length = 64
  | k, [], p, hp => by cases hp
  | k, x :: r, p, hp => by
    rw [laidFrom] at hp
    rcases List.mem_append.1 hp with h | h
    · exact laidI_64 _ _ p h
    · exact laidFrom_64 (k + 1) r p h
theorem laidFrom_len : ∀ (k : Nat) (L : List (List Int)), 2 * L.length ≤ (laidFrom k L).length
  | k, [] => Nat.zero_le _
  | k, x :: r => by
    have := laidFrom_len (k + 1) r
    rw [laidFrom, List.length_append, laidI_len, List.length_cons]
    omega
/-- Records that may be. -/
def GoodL (L : List (List Int)) : Prop := ∀ b ∈ L, 1 ≤ b.length ∧ b.length ≤ 4000
theorem scan_from : ∀ (R acc : List (List Int)) (f e : Nat) (img Y : List (List Int)), GoodL R → img.drop e = laidFrom (acc.length + 1) R ++ Y → R.length < f → nextI Y ((acc.length + R.length : Nat) + 1 : Int) = none →
    scanI img f e acc = (acc ++ R, e + (laidFrom (acc.length + 1) R).length)
  | [], acc, f, e, img, Y, _, hd, hf, hn => by
    rw [laidFrom, List.nil_append] at hd
    rw [laidFrom, List.append_nil, List.length_nil, Nat.add_zero]
    refine scanI_none ?_
    rw [hd]
    simpa using hn
  | b :: R, acc, f, e, img, Y, hG, hd, hf, hn => by
    obtain ⟨f, rfl⟩ : ∃ f', f = f' + 1 := ⟨f - 1, by simp at hf; omega⟩
    have hb := hG b (by simp)
    rw [laidFrom, List.append_assoc] at hd
    have hx : nextI (img.drop e) ((acc.length : Int) + 1) = some (b, (laidI ((acc.length : Int) + 1) b).length) := by
      rw [hd, show ((acc.length + 1 : Nat) : Int) = (acc.length : Int) + 1 by omega]
      exact next_laid hb.1 hb.2
    rw [scanI_some hx]
    have hd2 : img.drop (e + (laidI ((acc.length : Int) + 1) b).length) = laidFrom ((acc ++ [b]).length + 1) R ++ Y := by
      rw [← List.drop_drop, hd, show ((acc.length + 1 : Nat) : Int) = (acc.length : Int) + 1 by omega, List.drop_left, List.length_append, List.length_singleton]
    rw [scan_from R (acc ++ [b]) f _ img Y (fun x hx => hG x (by simp [hx])) hd2 (by simp at hf; omega) (by rw [List.length_append, List.length_singleton]; rw [List.length_cons] at hn; rw [show acc.length + 1 + R.length = acc.length + (R.length + 1) by omega]; exact hn)]
    rw [show (acc ++ [b]).length + 1 = acc.length + 1 + 1 by simp, List.append_assoc, laidFrom, show ((acc.length + 1 : Nat) : Int) = (acc.length : Int) + 1 by omega]
    refine Prod.ext rfl ?_
    simp only [List.length_append]
    omega
/-- What is read of a log's sectors with anything behind that is no record. -/
theorem scan_log {L Y : List (List Int)} (hG : GoodL L) (hn : nextI Y ((L.length : Int) + 1) = none) : scanAll (logL L ++ Y) = (L, (logL L).length) := by
  unfold scanAll
  have h := scan_from L [] ((logL L ++ Y).length + 1) 0 (logL L ++ Y) Y hG (by rw [List.drop_zero]; rfl) (by
    have := laidFrom_len 1 L
    rw [List.length_append]
    unfold logL
    omega) (by simpa using hn)
  rw [h, List.nil_append, Nat.zero_add]
  rfl

def Zs (k : Nat) : List (List Int) := List.replicate k zS
def IsI (X : List (List Int)) : Nat → List Int → Prop := fun i p => X[i]? = some p
theorem img_of {d : DSt} {X : List (List Int)} (h : AllP d (IsI X)) (hl : d.l.length = X.length) : d.img = X := by
  apply List.ext_getElem?
  intro i
  unfold DSt.img
  rw [List.getElem?_map]
  cases hq : d.l[i]? with
  | none =>
    rw [List.getElem?_eq_none (by rw [← hl]; exact List.getElem?_eq_none_iff.1 hq)]; rfl
  | some s => exact (h i s hq).1.symm
theorem next_zeros (k : Nat) (num : Int) : nextI (Zs k) num = none := by
  cases k with
  | zero => exact next_nil
  | succ k => exact next_zero
/-- A torn record behind a log's. -/
def PT (G TX : List (List Int)) : Nat → List Int → Prop := fun i p => if i < G.length then G[i]? = some p else (p = zS ∨ TX[i - G.length]? = some p)
theorem img_torn {d : DSt} {G TX : List (List Int)} (h : AllP d (PT G TX)) (hl : G.length ≤ d.l.length) : d.img = G ++ d.img.drop G.length ∧ Torn TX (d.img.drop G.length) := by
  have hg : ∀ (i : Nat) (p : List Int), d.img[i]? = some p → PT G TX i p := by
    intro i p hp
    unfold DSt.img at hp
    rw [List.getElem?_map] at hp
    cases hq : d.l[i]? with
    | none => rw [hq] at hp; cases hp
    | some s => rw [hq] at hp; cases hp; exact (h i s hq).1
  constructor
  · have ht : d.img.take G.length = G := by
      apply List.ext_getElem?
      intro i
      rw [List.getElem?_take]
      split
      · rename_i hi
        have hil : i < d.img.length := by rw [img_len]; omega
        have := hg i _ (List.getElem?_eq_getElem hil)
        unfold PT at this
        rw [if_pos hi] at this
        rw [List.getElem?_eq_getElem hil, this]
      · rename_i hi
        rw [List.getElem?_eq_none (by omega)]
    conv => lhs; rw [← List.take_append_drop G.length d.img]
    rw [ht]
  · intro i p hp
    rw [List.getElem?_drop] at hp
    have := hg _ _ hp
    unfold PT at this
    rw [if_neg (by omega), Nat.add_sub_cancel_left] at this
    exact this
theorem PT_zero (G TX : List (List Int)) {i : Nat} (h : G.length ≤ i) : PT G TX i zS := by unfold PT; rw [if_neg (by omega)]; exact .inl rfl
theorem PT_app {G TX Y : List (List Int)} (hY : Torn TX Y) {i : Nat} {p : List Int} (h : IsI (G ++ Y) i p) : PT G TX i p := by
  unfold IsI at h
  unfold PT
  split
  · rw [List.getElem?_append_left (by assumption)] at h; exact h
  · rw [List.getElem?_append_right (by omega)] at h; exact hY _ _ h
theorem torn_zeros (TX : List (List Int)) (k : Nat) : Torn TX (Zs k) := fun i p h => by
  unfold Zs at h
  rw [List.getElem?_replicate] at h
  split at h
  · cases h; exact .inl rfl
  · cases h
theorem torn_text (TX : List (List Int)) (k : Nat) : Torn TX (TX ++ Zs k) := fun i p h => by
  by_cases hi : i < TX.length
  · rw [List.getElem?_append_left hi] at h; exact .inr h
  · rw [List.getElem?_append_right (by omega)] at h
    unfold Zs at h
    rw [List.getElem?_replicate] at h
    split at h
    · cases h; exact .inl rfl
    · cases h

/-- A record, whole or torn, behind a log's. -/
structure Half (d : DSt) (L : List (List Int)) (bs : List Int) (n : Nat) : Prop where
  len : d.l.length = n
  room : (logL L).length + (laidI ((L.length : Int) + 1) bs).length ≤ n
  ok : ∀ s ∈ d.l, s.ok
  good : GoodL L
  bl : bs.length ≤ 4000
/-- Torn. -/
def HT (d : DSt) (L : List (List Int)) (bs : List Int) : Prop := AllP d (PT (logL L) (textS ((L.length : Int) + 1) bs))
/-- Whole. -/
def HW (d : DSt) (L : List (List Int)) (bs : List Int) (n : Nat) : Prop := 1 ≤ bs.length ∧ AllP d (IsI (logL (L ++ [bs]) ++ Zs (n - (logL (L ++ [bs])).length)))
theorem scan_torn {d : DSt} {L : List (List Int)} {bs : List Int} {n : Nat} (h : Half d L bs n) (ht : HT d L bs) : scanAll d.img = (L, (logL L).length) := by
  obtain ⟨h1, h2⟩ := img_torn ht (by rw [h.len]; have := h.room; omega)
  rw [h1]
  exact scan_log h.good (next_torn h.bl h2 fun p hp => img_64 h.ok p (List.mem_of_mem_drop hp))
theorem scan_whole {d : DSt} {L : List (List Int)} {bs : List Int} {n : Nat} (h : Half d L bs n) (hw : HW d L bs n) : d.img = logL (L ++ [bs]) ++ Zs (n - (logL (L ++ [bs])).length) ∧ scanAll d.img = (L ++ [bs], (logL (L ++ [bs])).length) := by
  have hr := h.room
  have e : d.img = logL (L ++ [bs]) ++ Zs (n - (logL (L ++ [bs])).length) := by
    refine img_of hw.2 ?_
    rw [h.len, List.length_append]
    unfold Zs
    rw [List.length_replicate, logL_snoc, List.length_append]
    omega
  refine ⟨e, ?_⟩
  rw [e]
  refine scan_log (fun b hb => ?_) (next_zeros _ _)
  rcases List.mem_append.1 hb with h1 | h1
  · exact h.good b h1
  · rw [List.mem_singleton.1 h1]; exact ⟨hw.1, h.bl⟩
/-- Opening such a device. -/
theorem open_torn {d : DSt} {L : List (List Int)} {bs : List Int} {n : Nat} (h : Half d L bs n) (ht : HT d L bs) (hd : d.dead = false) :
    (d.opened.2 = 0 ∨ d.opened.2 = 70) ∧ HT d.opened.1 L bs ∧ d.log.l = L ∧ (d.calm → d.opened.2 = 0) := by
  have hs := scan_torn h ht
  have hl := h.len
  have hr := h.room
  have ho : d.opened = wipeD (d.img.drop (logL L).length) (logL L).length false d := by
    unfold DSt.opened DSt.wiped
    rw [if_neg (by rw [hd]; decide), hs]
  have hin : (logL L).length + (d.img.drop (logL L).length).length ≤ d.l.length := by rw [List.length_drop, img_len]; omega
  rw [ho]
  refine ⟨wipeD_or _ _ _ _ hin, AllP.wipe _ _ _ _ ht fun j hj => PT_zero _ _ hj, ?_, fun hc => wipeD_calm _ _ _ _ hc hin⟩
  show (scanAll d.img).1 = L
  rw [hs]
theorem open_whole {d : DSt} {L : List (List Int)} {bs : List Int} {n : Nat} (h : Half d L bs n) (hw : HW d L bs n) (hd : d.dead = false) :
    d.opened = (d, 0) ∧ d.log.l = L ++ [bs] := by
  obtain ⟨he, hs⟩ := scan_whole h hw
  constructor
  · unfold DSt.opened DSt.wiped
    rw [if_neg (by rw [hd]; decide), hs]
    show wipeD (d.img.drop (logL (L ++ [bs])).length) _ false d = _
    conv => lhs; rw [he]
    rw [List.drop_left]
    exact wipe_zero _ _ _
  · show (scanAll d.img).1 = _
    rw [hs]

end Go.Proofs.YtgfkejecigefbaaDoor

namespace Go.Proofs.YtgfkejecigefbaaDoor
open Go.RowKit
set_option linter.unusedVariables false

theorem over_app {G Y ss : List (List Int)} {i : Nat} {p : List Int} (h : overP G.length ss (IsI (G ++ Y)) i p) : IsI (G ++ (ss ++ Y.drop ss.length)) i p := by
  unfold overP IsI at h
  unfold IsI
  split at h
  · rename_i hi
    rw [List.getElem?_append_right (by omega), List.getElem?_append_left (by omega)]
    exact h
  · rename_i hi
    by_cases h1 : i < G.length
    · rw [List.getElem?_append_left h1] at h ⊢; exact h
    · rw [List.getElem?_append_right (by omega)] at h
      rw [List.getElem?_append_right (by omega), List.getElem?_append_right (by omega), List.getElem?_drop, show ss.length + (i - G.length - ss.length) = i - G.length by omega]
      exact h
theorem zs_drop (m k : Nat) : (Zs m).drop k = Zs (m - k) := by unfold Zs; rw [List.drop_replicate]
theorem AllP.now {d : DSt} {P : Nat → List Int → Prop} (h : AllP d P) : NowP d P := fun i s hi => (h i s hi).1
theorem text_exact {G : List (List Int)} {m : Nat} {d : DSt} {ss : List (List Int)} (h : AllP d (IsI (G ++ Zs m))) (he : (putW ss G.length d).2 = 0) : AllP (putW ss G.length d).1 (IsI (G ++ (ss ++ Zs (m - ss.length)))) := by
  have := (putW_exact ss G.length d _ h.now he).mono fun i p hp => over_app hp
  rwa [zs_drop] at this
theorem lay_exact {G : List (List Int)} {m : Nat} {d : DSt} {num : Int} {bs : List Int} (h : AllP d (IsI (G ++ Zs m))) (he : (layD num bs G.length d).2 = 0) :
    AllP (layD num bs G.length d).1 (IsI (G ++ (laidI num bs ++ Zs (m - (laidI num bs).length)))) := by
  unfold layD at he ⊢
  split at he
  · rename_i h1
    rw [if_pos h1]
    have h2 := text_exact h h1
    rw [← List.append_assoc] at h2
    have h3 := text_exact (G := G ++ textS num bs) (ss := cut64 (markB num (textS num bs))) h2 (by rw [List.length_append]; exact he)
    rw [List.length_append] at h3
    refine h3.mono fun i p hp => ?_
    unfold laidI
    rw [List.length_append]
    rw [List.append_assoc, Nat.sub_sub] at hp
    rw [List.append_assoc]
    exact hp
  · exact absurd he (by assumption)
/-- A record's text, and perhaps its mark. -/
def PM (G : List (List Int)) (num : Int) (bs : List Int) (m : Nat) : Nat → List Int → Prop := fun i p => IsI (G ++ (textS num bs ++ Zs (m - (textS num bs).length))) i p ∨ IsI (G ++ (laidI num bs ++ Zs (m - (laidI num bs).length))) i p
theorem mark_at {G : List (List Int)} {num : Int} {bs : List Int} {m : Nat} (i : Nat) (p : List Int) (h : i ≠ G.length + (textS num bs).length) (hm : (laidI num bs).length ≤ m) : IsI (G ++ (textS num bs ++ Zs (m - (textS num bs).length))) i p ↔ IsI (G ++ (laidI num bs ++ Zs (m - (laidI num bs).length))) i p := by
  have hl : (laidI num bs).length = (textS num bs).length + 1 := by rw [laidI_len, textS_len]
  have hk : laidI num bs = textS num bs ++ cut64 (markB num (textS num bs)) := rfl
  unfold IsI
  by_cases h1 : i < G.length
  · rw [List.getElem?_append_left h1, List.getElem?_append_left h1]
  · rw [List.getElem?_append_right (l₁ := G) (by omega), List.getElem?_append_right (l₁ := G) (by omega)]
    by_cases h2 : i - G.length < (textS num bs).length
    · rw [List.getElem?_append_left (l₁ := textS num bs) h2, List.getElem?_append_left (l₁ := laidI num bs) (by omega), hk, List.getElem?_append_left (l₁ := textS num bs) h2]
    · rw [List.getElem?_append_right (l₁ := textS num bs) (by omega), List.getElem?_append_right (l₁ := laidI num bs) (by omega)]
      unfold Zs
      rw [List.getElem?_replicate, List.getElem?_replicate, hl]
      by_cases h3 : i - G.length - (textS num bs).length < m - (textS num bs).length
      · rw [if_pos h3, if_pos (by omega)]
      · rw [if_neg h3, if_neg (by omega)]
theorem lay_fail {G : List (List Int)} {m : Nat} {d : DSt} {num : Int} {bs : List Int} (h : AllP d (IsI (G ++ Zs m))) (hl : d.l.length = G.length + m) (hm : (laidI num bs).length ≤ m) (he : (layD num bs G.length d).2 ≠ 0) :
    (layD num bs G.length d).2 = 70 ∧ (AllP (layD num bs G.length d).1 (PT G (textS num bs)) ∨ AllP (layD num bs G.length d).1 (PM G num bs m)) := by
  have hll : (laidI num bs).length = (textS num bs).length + 1 := by rw [laidI_len, textS_len]
  unfold layD at he ⊢
  split at he
  · rename_i h1
    rw [if_pos h1]
    have h2 := text_exact h h1
    have hor := putW_or (cut64 (markB num (textS num bs))) (G.length + (textS num bs).length) (putW (textS num bs) G.length d).1 (cut64_64 _) (by rw [putW_len, markS_len]; omega)
    refine ⟨hor.resolve_left he, .inr ?_⟩
    refine AllP.putW _ _ _ (h2.mono fun i p hp => .inl hp) fun j p hj => .inr ?_
    have hj0 : j < 1 := by have := (List.getElem?_eq_some_iff.1 hj).1; rw [markS_len] at this; exact this
    unfold IsI
    rw [List.getElem?_append_right (by omega), List.getElem?_append_left (by omega)]
    show (textS num bs ++ cut64 (markB num (textS num bs)))[G.length + (textS num bs).length + j - G.length]? = some p
    rw [List.getElem?_append_right (by omega), show G.length + (textS num bs).length + j - G.length - (textS num bs).length = j by omega]
    exact hj
  · rename_i h1
    rw [if_neg h1]
    have hor := putW_or (textS num bs) G.length d (textS_64 _ _) (by omega)
    refine ⟨hor.resolve_left h1, .inl ?_⟩
    refine AllP.putW _ _ _ (h.mono fun i p hp => PT_app (torn_zeros _ _) hp) fun j p hj => ?_
    unfold PT
    rw [if_neg (by omega), Nat.add_sub_cancel_left]
    exact .inr hj
theorem crash_pm {G : List (List Int)} {m : Nat} {d : DSt} {num : Int} {bs : List Int} (hok : ∀ s ∈ d.l, s.ok) (h : AllP d (PM G num bs m)) (hm : (laidI num bs).length ≤ m) (keep : List Int) :
    AllP (d.crash keep) (IsI (G ++ (textS num bs ++ Zs (m - (textS num bs).length)))) ∨ AllP (d.crash keep) (IsI (G ++ (laidI num bs ++ Zs (m - (laidI num bs).length)))) := by
  have hc := h.crash keep
  have hs := crash_settled hok keep
  by_cases hk : ∃ s, (d.crash keep).l[G.length + (textS num bs).length]? = some s ∧ IsI (G ++ (laidI num bs ++ Zs (m - (laidI num bs).length))) (G.length + (textS num bs).length) s.now
  · right
    obtain ⟨s0, h0, h1⟩ := hk
    intro i s hi
    have e := hs s (List.mem_of_getElem? hi)
    have hn : IsI (G ++ (laidI num bs ++ Zs (m - (laidI num bs).length))) i s.now := by
      by_cases hi0 : i = G.length + (textS num bs).length
      · subst hi0
        rw [h0] at hi
        cases hi
        exact h1
      · rcases (hc i s hi).1 with h2 | h2
        · exact (mark_at i _ hi0 hm).1 h2
        · exact h2
    exact ⟨hn, e ▸ hn⟩
  · left
    intro i s hi
    have e := hs s (List.mem_of_getElem? hi)
    have hn : IsI (G ++ (textS num bs ++ Zs (m - (textS num bs).length))) i s.now := by
      by_cases hi0 : i = G.length + (textS num bs).length
      · subst hi0
        rcases (hc _ s hi).1 with h2 | h2
        · exact h2
        · exact absurd ⟨s, hi, h2⟩ hk
      · rcases (hc i s hi).1 with h2 | h2
        · exact h2
        · exact (mark_at i _ hi0 hm).2 h2
    exact ⟨hn, e ▸ hn⟩

/-- A log that is as it was told. -/
structure Ph (s : LSt) (d : DSt) (L : List (List Int)) (n : Nat) : Prop where
  st : s = ⟨n, (logL L).length, L, false⟩
  len : d.l.length = n
  fin : (logL L).length ≤ n
  all : AllP d (IsI (logL L ++ Zs (n - (logL L).length)))
  good : GoodL L
theorem Ph.fuse {s : LSt} {d : DSt} {L : List (List Int)} {n : Nat} (h : Ph s d L n) (k : Int) : Ph s (d.fuse k) L n :=
  ⟨h.st, by unfold DSt.fuse; split <;> exact h.len, h.fin, h.all.fuse k, h.good⟩
/-- Append, then a crash. -/
theorem app_crash {s : LSt} {d : DSt} {L : List (List Int)} {n : Nat} {bs : List Int} (h : Ph s d L n) (hb : bs.length ≤ 4000) (hr : (logL L).length + (laidI ((L.length : Int) + 1) bs).length ≤ n)
    (hok : ∀ t ∈ (appD s d bs).d.l, t.ok) (keep : List Int) :
    (appD s d bs).d.l.length = n ∧ (((appD s d bs).e = 0 ∧ HW ((appD s d bs).d.crash keep) L bs n) ∨ ((appD s d bs).e = 70 ∧ (HT ((appD s d bs).d.crash keep) L bs ∨ HW ((appD s d bs).d.crash keep) L bs n)) ∨ ((appD s d bs).e = 1 ∧ HT ((appD s d bs).d.crash keep) L bs)) := by
  have hst := h.st
  subst hst
  have hsn : logL (L ++ [bs]) = logL L ++ laidI ((L.length : Int) + 1) bs := logL_snoc L bs
  have hX : logL L ++ (laidI ((L.length : Int) + 1) bs ++ Zs (n - (logL L).length - (laidI ((L.length : Int) + 1) bs).length)) = logL (L ++ [bs]) ++ Zs (n - (logL (L ++ [bs])).length) := by
    rw [hsn, List.append_assoc, List.length_append, Nat.sub_sub]
  have hmm : (laidI ((L.length : Int) + 1) bs).length ≤ n - (logL L).length := by omega
  unfold appD at hok ⊢
  by_cases h1 : bs.length < 1 ∨ 4000 < bs.length
  · rw [if_pos h1]
    refine ⟨h.len, .inr (.inr ⟨rfl, ?_⟩)⟩
    exact AllP.crash (h.all.mono fun i p hp => PT_app (torn_zeros _ _) hp) keep
  · rw [if_neg h1, if_neg (show ¬ (false = true) by decide), if_neg (show ¬ n < (logL L).length + (laidI ((L.length : Int) + 1) bs).length by omega)] at hok ⊢
    have hl2 : d.l.length = (logL L).length + (n - (logL L).length) := by have := h.len; have := h.fin; omega
    by_cases h2 : (layD ((L.length : Int) + 1) bs (logL L).length d).2 = 0
    · rw [if_pos h2]
      refine ⟨(layD_len _ _ _ _).trans h.len, .inl ⟨rfl, by omega, ?_⟩⟩
      have := lay_exact h.all h2
      rw [hX] at this
      exact this.crash keep
    · rw [if_neg h2] at hok ⊢
      obtain ⟨h3, h4⟩ := lay_fail h.all hl2 hmm h2
      refine ⟨(layD_len _ _ _ _).trans h.len, .inr (.inl ⟨h3, ?_⟩)⟩
      rcases h4 with h4 | h4
      · exact .inl (h4.crash keep)
      · rcases crash_pm hok h4 hmm keep with h5 | h5
        · exact .inl (h5.mono fun i p hp => PT_app (torn_text _ _) hp)
        · rw [hX] at h5
          exact .inr ⟨by omega, h5⟩
/-- Append, on a device that does not fail. -/
theorem Ph.app {s : LSt} {d : DSt} {L : List (List Int)} {n : Nat} {bs : List Int} (h : Ph s d L n) (hc : d.calm) (hb : bs.length ≤ 4000) (hr : (logL L).length + (laidI ((L.length : Int) + 1) bs).length ≤ n) :
    ((appD s d bs).e = 0 ∧ Ph (appD s d bs).s (appD s d bs).d (L ++ [bs]) n ∧ (appD s d bs).d.calm) ∨ ((appD s d bs) = ⟨s, d, 1⟩) := by
  have hst := h.st
  subst hst
  have hsn : logL (L ++ [bs]) = logL L ++ laidI ((L.length : Int) + 1) bs := logL_snoc L bs
  have hX : logL L ++ (laidI ((L.length : Int) + 1) bs ++ Zs (n - (logL L).length - (laidI ((L.length : Int) + 1) bs).length)) = logL (L ++ [bs]) ++ Zs (n - (logL (L ++ [bs])).length) := by
    rw [hsn, List.append_assoc, List.length_append, Nat.sub_sub]
  unfold appD
  by_cases h1 : bs.length < 1 ∨ 4000 < bs.length
  · rw [if_pos h1]
    exact .inr rfl
  · rw [if_neg h1, if_neg (show ¬ (false = true) by decide), if_neg (show ¬ n < (logL L).length + (laidI ((L.length : Int) + 1) bs).length by omega)]
    have h2 := layD_calm (n := (L.length : Int) + 1) (bs := bs) (i := (logL L).length) hc (by rw [h.len]; exact hr)
    rw [if_pos h2.1]
    refine .inl ⟨rfl, ⟨?_, (layD_len _ _ _ _).trans h.len, ?_, ?_, ?_⟩, h2.2⟩
    · rw [hsn, List.length_append]
    · rw [hsn, List.length_append]; exact hr
    · have := lay_exact h.all h2.1
      rw [hX] at this
      exact this
    · intro b hb2
      rcases List.mem_append.1 hb2 with h3 | h3
      · exact h.good b h3
      · rw [List.mem_singleton.1 h3]; omega
theorem Ph.new (n : Nat) : Ph ⟨n, 0, [], false⟩ (newD n) [] n := by
  refine ⟨rfl, new_len n, Nat.zero_le _, ?_, fun b hb => by cases hb⟩
  intro i s hi
  have hm : i < n := by have := (List.getElem?_eq_some_iff.1 hi).1; rwa [new_len] at this
  have hs : s = zeroSec := by
    simp only [newD] at hi
    rw [List.getElem?_replicate, if_pos hm] at hi
    cases hi; rfl
  subst hs
  unfold IsI
  have hz : (logL [] ++ Zs (n - (logL []).length))[i]? = some zS := by
    show (Zs n)[i]? = some zS
    unfold Zs
    rw [List.getElem?_replicate, if_pos hm]
  exact ⟨hz, hz⟩
theorem logL_short {L : List (List Int)} (h : ∀ b ∈ L, b.length ≤ 700) : (logL L).length ≤ 13 * L.length := by
  unfold logL
  suffices ∀ k, (laidFrom k L).length ≤ 13 * L.length from this 1
  induction L with
  | nil => intro k; exact Nat.zero_le _
  | cons b r ih =>
    intro k
    have h1 := h b (by simp)
    have h2 := ih (fun x hx => h x (by simp [hx])) (k + 1)
    rw [laidFrom, List.length_append, laidI_len, List.length_cons]
    omega

end Go.Proofs.YtgfkejecigefbaaDoor
