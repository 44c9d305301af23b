
/- A device that no call made: every call's answer (printed by gen_dvn.py). -/
import Derived.Test.YtgfkejecigefbaaDoorDvA
namespace Go.Proofs.YtgfkejecigefbaaDoor
open Go.RowKit
set_option linter.unusedVariables false

/-- No device: nil, or one that no call made. -/
def NoDev (w : World) (a : Option Addr) : Prop := a = none ∨ ∃ g, a = some ⟨g, 0, none⟩ ∧ w.cell? ⟨g, 0, none⟩ = some (.slice none 0 0)
theorem NoDev.nil (w : World) : NoDev w none := .inl rfl

theorem nnone_any (w : World) (a : Option Addr) (h : NoDev w a) : Calls Tryd.prog 42 #[.pointer a] w fun e w' => e = .returned (.bool true) ∧ w = w' := by
  rcases h with rfl | ⟨g, rfl, c0⟩
  · go_enter Tryd.func42, Tryd.ntmps42
    go_wp2
    go_ret
    exact ⟨rfl, rfl⟩
  · go_enter Tryd.func42, Tryd.ntmps42
    go_wp2
    go_ret
    exact ⟨rfl, rfl⟩
theorem nat_any (w : World) (a : Option Addr) (i : Int) (h : NoDev w a) : Calls Tryd.prog 86 #[.pointer a, .int .i64 i] w fun e w' => e = .returned (.int .i64 2) ∧ w = w' := by
  have HN := Lib.hid (nnone_any w a h)
  clear h
  go_enter Tryd.func86, Tryd.ntmps86
  go_wp2_with fail
  refine HN.out.mono ?_
  rintro e w1 ⟨rfl, rfl⟩
  go_wp2
  go_ret
  exact ⟨rfl, rfl⟩
theorem nwrite_any (w : World) (a : Option Addr) (i : Int) (va : Option Addr) (vn vc : Nat) (h : NoDev w a) : Calls Tryd.prog 62 #[.pointer a, .int .i64 i, .slice va vn vc] w fun e w' => e = .returned (.int .i64 2) ∧ w = w' := by
  have HN := Lib.hid (nat_any w a i h)
  clear h
  go_enter Tryd.func62, Tryd.ntmps62
  go_wp2_with fail
  refine HN.out.mono ?_
  rintro e w1 ⟨rfl, rfl⟩
  go_wp2
  first | go_ret | go_ret2
  exact ⟨rfl, rfl⟩
theorem nsync_any (w : World) (a : Option Addr) (h : NoDev w a) : Calls Tryd.prog 63 #[.pointer a] w fun e w' => e = .returned (.int .i64 2) ∧ w = w' := by
  have HN := Lib.hid (nnone_any w a h)
  clear h
  go_enter Tryd.func63, Tryd.ntmps63
  go_wp2_with fail
  refine HN.out.mono ?_
  rintro e w1 ⟨rfl, rfl⟩
  go_wp2
  first | go_ret | go_ret2
  exact ⟨rfl, rfl⟩
theorem nfuse_any (w : World) (a : Option Addr) (i : Int) (h : NoDev w a) : Calls Tryd.prog 19 #[.pointer a, .int .i64 i] w fun e w' => e = .returned (.int .i64 2) ∧ w = w' := by
  have HN := Lib.hid (nnone_any w a h)
  clear h
  go_enter Tryd.func19, Tryd.ntmps19
  go_wp2_with fail
  refine HN.out.mono ?_
  rintro e w1 ⟨rfl, rfl⟩
  go_wp2
  first | go_ret | go_ret2
  exact ⟨rfl, rfl⟩
theorem ncrash_any (w : World) (a : Option Addr) (va : Option Addr) (vn vc : Nat) (h : NoDev w a) : Calls Tryd.prog 20 #[.pointer a, .slice va vn vc] w fun e w' => e = .returned (.int .i64 2) ∧ w = w' := by
  have HN := Lib.hid (nnone_any w a h)
  clear h
  go_enter Tryd.func20, Tryd.ntmps20
  go_wp2_with fail
  refine HN.out.mono ?_
  rintro e w1 ⟨rfl, rfl⟩
  go_wp2
  first | go_ret | go_ret2
  exact ⟨rfl, rfl⟩
theorem ndead_any (w : World) (a : Option Addr) (h : NoDev w a) : Calls Tryd.prog 38 #[.pointer a] w fun e w' => e = .returned (.bool true) ∧ w = w' := by
  have HN := Lib.hid (nnone_any w a h)
  clear h
  go_enter Tryd.func38, Tryd.ntmps38
  go_wp2_with fail
  refine HN.out.mono ?_
  rintro e w1 ⟨rfl, rfl⟩
  go_wp2
  first | go_ret | go_ret2
  exact ⟨rfl, rfl⟩
theorem nwaits_any (w : World) (a : Option Addr) (h : NoDev w a) : Calls Tryd.prog 43 #[.pointer a] w fun e w' => e = .returned (.slice none 0 0) ∧ w = w' := by
  have HN := Lib.hid (nnone_any w a h)
  clear h
  go_enter Tryd.func43, Tryd.ntmps43
  go_wp2_with fail
  refine HN.out.mono ?_
  rintro e w1 ⟨rfl, rfl⟩
  go_wp2
  first | go_ret | go_ret2
  exact ⟨rfl, rfl⟩
theorem nimage_any (w : World) (a : Option Addr) (h : NoDev w a) : Calls Tryd.prog 27 #[.pointer a] w fun e w' => e = .returned (.slice none 0 0) ∧ w = w' := by
  have HN := Lib.hid (nnone_any w a h)
  clear h
  go_enter Tryd.func27, Tryd.ntmps27
  go_wp2_with fail
  refine HN.out.mono ?_
  rintro e w1 ⟨rfl, rfl⟩
  go_wp2
  first | go_ret | go_ret2
  exact ⟨rfl, rfl⟩
theorem nchanges_any (w : World) (a : Option Addr) (h : NoDev w a) : Calls Tryd.prog 69 #[.pointer a] w fun e w' => e = .returned (.int .i64 0) ∧ w = w' := by
  have HN := Lib.hid (nnone_any w a h)
  clear h
  go_enter Tryd.func69, Tryd.ntmps69
  go_wp2_with fail
  refine HN.out.mono ?_
  rintro e w1 ⟨rfl, rfl⟩
  go_wp2
  first | go_ret | go_ret2
  exact ⟨rfl, rfl⟩

end Go.Proofs.YtgfkejecigefbaaDoor
