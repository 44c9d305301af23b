
/- The walks of Hash and Number, the program's and the reference's. -/
import Derived.Test.YtgfkejecigefbaaDoorTextB
import Derived.Test.YtgfkejecigefbaaDoorShaL
namespace Go.Proofs.YtgfkejecigefbaaDoor
open Go.RowKit
set_option linter.unusedVariables false

theorem textI_isB (tag : Int) (pss : List (List Int)) (h0 : 0 ≤ tag) (h1 : tag ≤ 255) (h : ∀ p ∈ pss, IsB p) : IsB (textI tag pss) := by
  intro x hx
  simp only [textI, List.mem_cons, List.mem_flatMap] at hx
  rcases hx with rfl | ⟨p, hp, rfl | rfl | hx⟩
  · exact ⟨h0, h1⟩
  · omega
  · omega
  · exact h p hp x hx

theorem contT_isB (tag : Int) (pss : List (List Int)) (h : ∀ p ∈ pss, IsB p) : IsB (contT tag pss) := by
  unfold contT
  split
  · intro x hx; cases hx
  · split
    · intro x hx; cases hx
    · exact textI_isB tag pss (by omega) (by omega) h

theorem contT_len (tag : Int) (pss : List (List Int)) : (contT tag pss).length ≤ 65537 * pss.length + 1 := by
  unfold contT
  split
  · simp
  · split
    · simp
    · rename_i h1 h2
      exact textI_len tag pss (fun p hp => by
        rcases Nat.lt_or_ge 65535 p.length with h | h
        · exact absurd ⟨p, hp, h⟩ h2
        · exact h)

/-- What Hash returns. -/
def hashT (size tag : Int) (pss : List (List Int)) : List Int := if codeT tag pss = 0 then cutI size (contT tag pss) else []

theorem codeT_or (tag : Int) (pss : List (List Int)) : codeT tag pss = 0 ∨ codeT tag pss = 1 ∨ codeT tag pss = 4 := by
  unfold codeT; split
  · simp
  · split <;> simp

set_option maxHeartbeats 400000 in
theorem hash_any (size tag : Int) (v : Value) (pss : List (List Int)) (w : World) (hpl : pss.length ≤ 1000000) (h1 : -9223372036854775808 ≤ tag) (h2 : tag ≤ 9223372036854775807) (h : Sls w v pss) (hB : ∀ p ∈ pss, IsB p) (ht : Tabs w) :
    Calls Tryd.prog 73 #[.int .i64 size, .int .i64 tag, v] w fun e w' => ∃ x, e = .returned x ∧ Sl w' x ((hashT size tag pss).map (Value.int .u8)) ∧ Below w.heap.size w w' := by
  have HT := Lib.hid (text_any tag v pss w hpl h1 h2 h)
  have hcl := contT_len tag pss
  have hcl : (contT tag pss).length ≤ 140737488351232 := by omega
  have HCL := Lib.hid hcl
  have hcB := contT_isB tag pss hB
  have hor := codeT_or tag pss
  have HD := Lib.hid (show hashT size tag pss = if codeT tag pss = 0 then cutI size (contT tag pss) else [] from rfl)
  generalize hc : codeT tag pss = c at *
  generalize hx : contT tag pss = X at *
  clear hpl hcl h1 h2 hc hx
  rcases hor with rfl | rfl | rfl
  · go_enter Tryd.func73, Tryd.ntmps73
    go_wp2_with fail
    refine HT.out.mono ?_
    rintro e w1 ⟨x, rfl, hs1, hb1⟩
    have ht1 := ht.below hb1
    go_wp2_with fail
    refine (shaCut_any size x X w1 (by have := HCL.out; omega) hcB.at hs1 ht1).mono ?_
    rintro e w2 ⟨y, rfl, hs2, hb2⟩
    have hb12 := below_trans2 hb1 hb2
    go_wp2
    go_ret
    exact ⟨_, rfl, by rw [HD.out, if_pos trivial]; exact hs2, hb12⟩
  · go_enter Tryd.func73, Tryd.ntmps73
    go_wp2_with fail
    refine HT.out.mono ?_
    rintro e w1 ⟨x, rfl, hs1, hb1⟩
    go_wp2
    go_ret
    exact ⟨_, rfl, by rw [HD.out, if_neg (by omega)]; exact Sl.nil _, hb1⟩
  · go_enter Tryd.func73, Tryd.ntmps73
    go_wp2_with fail
    refine HT.out.mono ?_
    rintro e w1 ⟨x, rfl, hs1, hb1⟩
    go_wp2
    go_ret
    exact ⟨_, rfl, by rw [HD.out, if_neg (by omega)]; exact Sl.nil _, hb1⟩

set_option maxHeartbeats 400000 in
theorem refHash_any (size tag : Int) (v : Value) (pss : List (List Int)) (w : World) (hpl : pss.length ≤ 1000000) (h1 : -9223372036854775808 ≤ tag) (h2 : tag ≤ 9223372036854775807) (h : Sls w v pss) (hB : ∀ p ∈ pss, IsB p) :
    Calls Tryd.prog 79 #[.int .i64 size, .int .i64 tag, v] w fun e w' => ∃ x, e = .returned x ∧ Sl w' x ((hashT size tag pss).map (Value.int .u8)) ∧ Below w.heap.size w w' := by
  have HT := Lib.hid (refText_any tag v pss w hpl h1 h2 h)
  have hcl := contT_len tag pss
  have hcl : (contT tag pss).length ≤ 140737488351232 := by omega
  have HCL := Lib.hid hcl
  have hcB := contT_isB tag pss hB
  have hor := codeT_or tag pss
  have HD := Lib.hid (show hashT size tag pss = if codeT tag pss = 0 then cutI size (contT tag pss) else [] from rfl)
  generalize hc : codeT tag pss = c at *
  generalize hx : contT tag pss = X at *
  clear hpl hcl h1 h2 hc hx
  rcases hor with rfl | rfl | rfl
  · go_enter Tryd.func79, Tryd.ntmps79
    go_wp2_with fail
    refine HT.out.mono ?_
    rintro e w1 ⟨x, rfl, hs1, hb1⟩
    go_wp2_with fail
    refine (refCut_any size x X w1 HCL.out hcB.at hs1).mono ?_
    rintro e w2 ⟨y, rfl, hs2, hb2⟩
    have hb12 := below_trans2 hb1 hb2
    go_wp2
    go_ret
    exact ⟨_, rfl, by rw [HD.out, if_pos trivial]; exact hs2, hb12⟩
  · go_enter Tryd.func79, Tryd.ntmps79
    go_wp2_with fail
    refine HT.out.mono ?_
    rintro e w1 ⟨x, rfl, hs1, hb1⟩
    go_wp2
    go_ret
    exact ⟨_, rfl, by rw [HD.out, if_neg (by omega)]; exact Sl.nil _, hb1⟩
  · go_enter Tryd.func79, Tryd.ntmps79
    go_wp2_with fail
    refine HT.out.mono ?_
    rintro e w1 ⟨x, rfl, hs1, hb1⟩
    go_wp2
    go_ret
    exact ⟨_, rfl, by rw [HD.out, if_neg (by omega)]; exact Sl.nil _, hb1⟩

end Go.Proofs.YtgfkejecigefbaaDoor
