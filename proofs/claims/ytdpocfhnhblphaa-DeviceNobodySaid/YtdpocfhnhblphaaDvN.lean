/- A device that no call made: every call's answer (printed by gen_dvn.py). -/
import Derived.Test.YtdpocfhnhblphaaDvA
namespace Go.Proofs.Ytdpocfhnhblphaa
open Go.RowKit
set_option linter.unusedVariables false

/-- No device: nil, or one that no call made. -/
def NoDev (w : World) (a : Option Addr) : Prop := a = none ∨ ∃ g, a = some ⟨g, 0, none⟩ ∧ w.cell? ⟨g, 0, none⟩ = some (.slice none 0 0)
theorem NoDev.nil (w : World) : NoDev w none := .inl rfl

theorem nnone_any (w : World) (a : Option Addr) (h : NoDev w a) : Calls Try.prog 43 #[.pointer a] w fun e w' => e = .returned (.bool true) ∧ w = w' := by
  rcases h with rfl | ⟨g, rfl, c0⟩
  · go_enter Try.func43, Try.ntmps43
    go_wp2
    go_ret
    exact ⟨rfl, rfl⟩
  · go_enter Try.func43, Try.ntmps43
    go_wp2
    go_ret
    exact ⟨rfl, rfl⟩
theorem nat_any (w : World) (a : Option Addr) (i : Int) (h : NoDev w a) : Calls Try.prog 41 #[.pointer a, .int .i64 i] w fun e w' => e = .returned (.int .i64 2) ∧ w = w' := by
  have HN := Lib.hid (nnone_any w a h)
  clear h
  go_enter Try.func41, Try.ntmps41
  go_wp2_with fail
  refine HN.out.mono ?_
  rintro e w1 ⟨rfl, rfl⟩
  go_wp2
  go_ret
  exact ⟨rfl, rfl⟩
theorem nread_any (w : World) (a : Option Addr) (i : Int) (h : NoDev w a) : Calls Try.prog 16 #[.pointer a, .int .i64 i] w fun e w' => e = .returned (.tuple #[.slice none 0 0, .int .i64 2]) ∧ w = w' := by
  have HN := Lib.hid (nat_any w a i h)
  clear h
  go_enter Try.func16, Try.ntmps16
  go_wp2_with fail
  refine HN.out.mono ?_
  rintro e w1 ⟨rfl, rfl⟩
  go_wp2
  first | go_ret | go_ret2
  exact ⟨rfl, rfl⟩
theorem nwrite_any (w : World) (a : Option Addr) (i : Int) (va : Option Addr) (vn vc : Nat) (h : NoDev w a) : Calls Try.prog 13 #[.pointer a, .int .i64 i, .slice va vn vc] w fun e w' => e = .returned (.int .i64 2) ∧ w = w' := by
  have HN := Lib.hid (nat_any w a i h)
  clear h
  go_enter Try.func13, Try.ntmps13
  go_wp2_with fail
  refine HN.out.mono ?_
  rintro e w1 ⟨rfl, rfl⟩
  go_wp2
  first | go_ret | go_ret2
  exact ⟨rfl, rfl⟩
theorem nsync_any (w : World) (a : Option Addr) (h : NoDev w a) : Calls Try.prog 14 #[.pointer a] w fun e w' => e = .returned (.int .i64 2) ∧ w = w' := by
  have HN := Lib.hid (nnone_any w a h)
  clear h
  go_enter Try.func14, Try.ntmps14
  go_wp2_with fail
  refine HN.out.mono ?_
  rintro e w1 ⟨rfl, rfl⟩
  go_wp2
  first | go_ret | go_ret2
  exact ⟨rfl, rfl⟩
theorem nfuse_any (w : World) (a : Option Addr) (i : Int) (h : NoDev w a) : Calls Try.prog 18 #[.pointer a, .int .i64 i] w fun e w' => e = .returned (.int .i64 2) ∧ w = w' := by
  have HN := Lib.hid (nnone_any w a h)
  clear h
  go_enter Try.func18, Try.ntmps18
  go_wp2_with fail
  refine HN.out.mono ?_
  rintro e w1 ⟨rfl, rfl⟩
  go_wp2
  first | go_ret | go_ret2
  exact ⟨rfl, rfl⟩
theorem ncrash_any (w : World) (a : Option Addr) (va : Option Addr) (vn vc : Nat) (h : NoDev w a) : Calls Try.prog 15 #[.pointer a, .slice va vn vc] w fun e w' => e = .returned (.int .i64 2) ∧ w = w' := by
  have HN := Lib.hid (nnone_any w a h)
  clear h
  go_enter Try.func15, Try.ntmps15
  go_wp2_with fail
  refine HN.out.mono ?_
  rintro e w1 ⟨rfl, rfl⟩
  go_wp2
  first | go_ret | go_ret2
  exact ⟨rfl, rfl⟩
theorem ndead_any (w : World) (a : Option Addr) (h : NoDev w a) : Calls Try.prog 19 #[.pointer a] w fun e w' => e = .returned (.bool true) ∧ w = w' := by
  have HN := Lib.hid (nnone_any w a h)
  clear h
  go_enter Try.func19, Try.ntmps19
  go_wp2_with fail
  refine HN.out.mono ?_
  rintro e w1 ⟨rfl, rfl⟩
  go_wp2
  first | go_ret | go_ret2
  exact ⟨rfl, rfl⟩
theorem nwaits_any (w : World) (a : Option Addr) (h : NoDev w a) : Calls Try.prog 20 #[.pointer a] w fun e w' => e = .returned (.slice none 0 0) ∧ w = w' := by
  have HN := Lib.hid (nnone_any w a h)
  clear h
  go_enter Try.func20, Try.ntmps20
  go_wp2_with fail
  refine HN.out.mono ?_
  rintro e w1 ⟨rfl, rfl⟩
  go_wp2
  first | go_ret | go_ret2
  exact ⟨rfl, rfl⟩
theorem nimage_any (w : World) (a : Option Addr) (h : NoDev w a) : Calls Try.prog 21 #[.pointer a] w fun e w' => e = .returned (.slice none 0 0) ∧ w = w' := by
  have HN := Lib.hid (nnone_any w a h)
  clear h
  go_enter Try.func21, Try.ntmps21
  go_wp2_with fail
  refine HN.out.mono ?_
  rintro e w1 ⟨rfl, rfl⟩
  go_wp2
  first | go_ret | go_ret2
  exact ⟨rfl, rfl⟩
theorem ncopy_any (w : World) (a : Option Addr) (h : NoDev w a) : Calls Try.prog 23 #[.pointer a] w fun e w' => e = .returned (.pointer none) ∧ w = w' := by
  have HN := Lib.hid (nnone_any w a h)
  clear h
  go_enter Try.func23, Try.ntmps23
  go_wp2_with fail
  refine HN.out.mono ?_
  rintro e w1 ⟨rfl, rfl⟩
  go_wp2
  first | go_ret | go_ret2
  exact ⟨rfl, rfl⟩
theorem nchanges_any (w : World) (a : Option Addr) (h : NoDev w a) : Calls Try.prog 22 #[.pointer a] w fun e w' => e = .returned (.int .i64 0) ∧ w = w' := by
  have HN := Lib.hid (nnone_any w a h)
  clear h
  go_enter Try.func22, Try.ntmps22
  go_wp2_with fail
  refine HN.out.mono ?_
  rintro e w1 ⟨rfl, rfl⟩
  go_wp2
  first | go_ret | go_ret2
  exact ⟨rfl, rfl⟩

end Go.Proofs.Ytdpocfhnhblphaa
