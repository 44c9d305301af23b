
/- The walks of the reference's word, right, round and adds. -/
import Derived.Test.YtgfkejecigefbaaDoorShaE
import Derived.Deep.Cut
namespace Go.Proofs.YtgfkejecigefbaaDoor
open Go.RowKit
set_option linter.unusedVariables false

def rightI (x n : Int) : Int := bits .or .u32 (x / 2 ^ n.toNat) (x * 2 ^ (32 - n).toNat % 4294967296)
theorem rightI_bd (x n : Int) : 0 ≤ rightI x n ∧ rightI x n ≤ 4294967295 := bits_u32_bd _ _ _

set_option maxHeartbeats 400000 in
theorem right_any (x n : Int) (h0 : 0 ≤ x) (h1 : x ≤ 4294967295) (hn0 : 0 < n) (hn1 : n < 32) (w : World) :
    Calls Tryd.prog 133 #[.int .u32 x, .int .i64 n] w fun e w' => e = .returned (.int .u32 (rightI x n)) ∧ ∃ m, w' = w.drewN m := by
  have e1 : IntKind.i64.wrap (32 - n) = 32 - n := by rw [IntKind.wrap_i64]; omega
  have e2 : 0 ≤ 32 - n := by omega
  go_enter Tryd.func133, Tryd.ntmps133
  go_wp2
  go_quiet (fail)
  go_wp2
  go_ret
  exact ⟨rfl, _, rfl⟩

def wordI (bs : List Int) : Int := bs.getD 0 0 * 16777216 + bs.getD 1 0 * 65536 + bs.getD 2 0 * 256 + bs.getD 3 0

set_option maxHeartbeats 400000 in
theorem word_any (v : Value) (bs : List Int) (w : World) (hl : 4 ≤ bs.length) (hB : ∀ j, 0 ≤ bs.getD j 0 ∧ bs.getD j 0 ≤ 255) (hs : Sl w v (bs.map (Value.int .u8))) :
    Calls Tryd.prog 132 #[v] w fun e w' => e = .returned (.int .u32 (wordI bs)) ∧ ∃ m, w' = w.drewN m := by
  obtain ⟨ad, cap, rfl, hcl, hcm⟩ := hs.shape
  obtain ⟨b, off, rfl, hbb, hx⟩ := hs.ints (k := 0) (by omega)
  simp only [List.length_map] at *
  have c0 : w.cell? ⟨b, off, none⟩ = some (.int .u8 (bs.getD 0 0)) := hx 0 (by omega)
  have c1 := hx 1 (by omega)
  have c2 := hx 2 (by omega)
  have c3 := hx 3 (by omega)
  have b0 := hB 0
  have b1 := hB 1
  have b2 := hB 2
  have b3 := hB 3
  have HW := Lib.hid (show wordI bs = bs.getD 0 0 * 16777216 + bs.getD 1 0 * 65536 + bs.getD 2 0 * 256 + bs.getD 3 0 from rfl)
  generalize bs.getD 0 0 = x0 at *
  generalize bs.getD 1 0 = x1 at *
  generalize bs.getD 2 0 = x2 at *
  generalize bs.getD 3 0 = x3 at *
  have l0 : (0 : Int) < (bs.length : Int) := by omega
  have l1 : (1 : Int) < (bs.length : Int) := by omega
  have l2 : (2 : Int) < (bs.length : Int) := by omega
  have l3 : (3 : Int) < (bs.length : Int) := by omega
  clear hx hs hB hl
  go_enter Tryd.func132, Tryd.ntmps132
  go_wp2
  go_quiet (fail)
  go_wp2
  go_ret
  refine ⟨ret_int ?_, _, rfl⟩
  rw [HW.out]

def sigR (x a b c : Int) : Int := bits .xor .u32 (bits .xor .u32 (rightI x a) (rightI x b)) (rightI x c)
def chR (e f g : Int) : Int := bits .xor .u32 (bits .and .u32 e f) (bits .and .u32 (bits .xor .u32 (if IntKind.u32.signed = true then -1 else IntKind.u32.max) e) g)
def majR (a b c : Int) : Int := bits .xor .u32 (bits .xor .u32 (bits .and .u32 a b) (bits .and .u32 a c)) (bits .and .u32 b c)
def tR (a4 a5 a6 a7 ad : Int) : Int := ((a7 + sigR a4 6 11 25 + chR a4 a5 a6) % 4294967296 + ad) % 4294967296
def rN0 (a0 a1 a2 a4 a5 a6 a7 ad : Int) : Int := (tR a4 a5 a6 a7 ad + sigR a0 2 13 22 + majR a0 a1 a2) % 4294967296
def rN4 (a3 a4 a5 a6 a7 ad : Int) : Int := (a3 + tR a4 a5 a6 a7 ad) % 4294967296

set_option maxRecDepth 100000 in
set_option maxHeartbeats 2000000 in
theorem refRound_any (a0 a1 a2 a3 a4 a5 a6 a7 ad : Int) (h0 : 0 ≤ a0 ∧ a0 ≤ 4294967295) (h1 : 0 ≤ a1 ∧ a1 ≤ 4294967295) (h2 : 0 ≤ a2 ∧ a2 ≤ 4294967295) (h3 : 0 ≤ a3 ∧ a3 ≤ 4294967295) (h4 : 0 ≤ a4 ∧ a4 ≤ 4294967295) (h5 : 0 ≤ a5 ∧ a5 ≤ 4294967295) (h6 : 0 ≤ a6 ∧ a6 ≤ 4294967295) (h7 : 0 ≤ a7 ∧ a7 ≤ 4294967295) (hd : 0 ≤ ad ∧ ad ≤ 4294967295) (w : World) :
    Calls Tryd.prog 134 #[.agg #[.int .u32 a0, .int .u32 a1, .int .u32 a2, .int .u32 a3, .int .u32 a4, .int .u32 a5, .int .u32 a6, .int .u32 a7], .int .u32 ad] w fun e w' => e = .returned (.agg #[.int .u32 (rN0 a0 a1 a2 a4 a5 a6 a7 ad), .int .u32 a0, .int .u32 a1, .int .u32 a2, .int .u32 (rN4 a3 a4 a5 a6 a7 ad), .int .u32 a4, .int .u32 a5, .int .u32 a6]) ∧ Below w.heap.size w w' := by
  go_enter Tryd.func134, Tryd.ntmps134
  go_wp2
  go_quiet ((go_at_call 133; exact Calls.quiet_of (right_any _ _ (by omega) (by omega) (by omega) (by omega) _)))
  go_wp2
  obtain ⟨nqa, rfl⟩ : ∃ x : Nat, x = nq := ⟨_, rfl⟩
  generalize hS0 : bits BinOp.xor IntKind.u32 (bits BinOp.xor IntKind.u32 (rightI a0 2) (rightI a0 13)) (rightI a0 22) = S0
  go_quiet ((go_at_call 133; exact quiet_add (right_any _ _ (by omega) (by omega) (by omega) (by omega) _)))
  obtain ⟨nqb, rfl⟩ : ∃ x : Nat, x = nq := ⟨_, rfl⟩
  have HS0 := Lib.hid hS0
  clear hS0
  go_upto_region 3 with (fail)
  generalize hS1 : bits BinOp.xor IntKind.u32 (bits BinOp.xor IntKind.u32 (rightI a4 6) (rightI a4 11)) (rightI a4 25) = S1
  have HS1 := Lib.hid hS1
  clear hS1
  go_upto_region 4 with (fail)
  generalize hC : bits BinOp.xor IntKind.u32 (bits BinOp.and IntKind.u32 a4 a5) (bits BinOp.and IntKind.u32 (bits BinOp.xor IntKind.u32 (if IntKind.u32.signed = true then -1 else IntKind.u32.max) a4) a6) = C
  have HC := Lib.hid hC
  clear hC
  go_upto_region 5 with (fail)
  generalize hM : bits BinOp.xor IntKind.u32 (bits BinOp.xor IntKind.u32 (bits BinOp.and IntKind.u32 a0 a1) (bits BinOp.and IntKind.u32 a0 a2)) (bits BinOp.and IntKind.u32 a1 a2) = M
  have HM := Lib.hid hM
  clear hM
  go_upto_region 6 with (fail)
  generalize hT : ((a7 + S1 + C) % 4294967296 + ad) % 4294967296 = T
  have HT := Lib.hid hT
  clear hT
  have eT : tR a4 a5 a6 a7 ad = T := by unfold tR sigR chR; rw [HS1.out, HC.out]; exact HT.out
  have HN0 := Lib.hid (show rN0 a0 a1 a2 a4 a5 a6 a7 ad = (T + S0 + M) % 4294967296 by unfold rN0 sigR majR; rw [eT, HS0.out, HM.out])
  have HN4 := Lib.hid (show rN4 a3 a4 a5 a6 a7 ad = (a3 + T) % 4294967296 by unfold rN4; rw [eT])
  clear eT HS0 HS1 HC HM HT
  go_wp2
  rw [HN0.out, HN4.out]
  refine bodyPost_ret (v := .agg #[.int .u32 ((T + S0 + M) % 4294967296), .int .u32 a0, .int .u32 a1, .int .u32 a2, .int .u32 ((a3 + T) % 4294967296), .int .u32 a4, .int .u32 a5, .int .u32 a6]) (by simp [results, Tryd.results134, go_sem]) rfl ⟨rfl, ?_⟩
  iterate 8 (refine Below.setCell ?_ (Nat.le_succ _) _)
  exact below_drewN (((Below.refl _ _).alloc (Nat.le_refl _) _).alloc (by simp) _) _

end Go.Proofs.YtgfkejecigefbaaDoor
