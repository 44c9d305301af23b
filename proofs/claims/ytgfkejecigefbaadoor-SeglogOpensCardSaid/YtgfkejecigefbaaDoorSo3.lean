
/- The reference's log: next: the walk (printed by gen_srd.py). Conditions: none. The reference's device: the fuse, Read, Write. The reference's device: Write. The reference's device: Sync. -/
import Derived.Test.YtgfkejecigefbaaDoorSo2
import Derived.Test.YtgfkejecigefbaaDoorSo1
import Derived.Test.YtgfkejecigefbaaDoorDvD
import Derived.Deep.Cut
import Derived.Deep.RegionHeld3
namespace Go.Proofs.YtgfkejecigefbaaDoor
open Go.RowKit
set_option linter.unusedVariables false

def rnextX (img : List (List Int)) (at_ : Nat) (num : Int) (x : Value) (ln : Int) (ok : Bool) (w : World) (base : Nat) : Prop :=
  (ok = true → ∃ n : Nat, ln = ((at_ + n : Nat) : Int) ∧ nextI (img.drop at_) num = some (bodyI (img.drop at_), n) ∧ OB w base x (bodyI (img.drop at_))) ∧ (ok = false → nextI (img.drop at_) num = none)
theorem needs_rn {ops : Array Oper} {i j : Nat} (h : (needs ops i).contains j = true) : j ∈ needs ops i := List.contains_iff_mem.1 h
theorem wanted_rn {o : Oper} {ops : Array Oper} {tmps : Array Value} {k : Nat} {b c : Bool} {s : Tmp} (hg : o.guard = some (k, b)) (hd : (ops[k]?).bind (·.dst) = some s) (hs : tmps[s]? = some (.bool c)) : Region.wanted o (yielded ops tmps) = decide (c = b) := by
  unfold Region.wanted yielded
  rw [hg]
  simp only [hd, Option.bind_some, hs]
  cases b <;> cases c <;> rfl
theorem wpOp_skipN {P : Program} {ops : Array Oper} {Q : Exit → Act → World → Prop} {i : Nat} {o : Oper} {K : Act → World → Prop} {a : Act} {w : World} (ho : ops[i]? = some o) (hw : Region.wanted o (yielded ops a.tmps) = false) (h : K (a.put o.dst undef) w) : wpOp P ops Q i K a w := by
  unfold wpOp
  rw [ho]
  show if Region.wanted o (yielded ops a.tmps) = true then _ else _
  rw [if_neg (by simp [hw])]
  exact h
theorem wpOp_wantN {P : Program} {ops : Array Oper} {Q : Exit → Act → World → Prop} {i : Nat} {o : Oper} {K : Act → World → Prop} {a : Act} {w : World} (ho : ops[i]? = some o) (hw : Region.wanted o (yielded ops a.tmps) = true) (h : Oper.wp P o a w K Q) : wpOp P ops Q i K a w := by
  unfold wpOp
  rw [ho]
  show if Region.wanted o (yielded ops a.tmps) = true then _ else _
  rw [if_pos hw]
  exact Or.inl h
abbrev NxAAct (y gl n cl at_ K : Nat) (num : Int) (tv bv sv : Value) (BD FT PK : List Int) (x3 x4 x5 x6 x7 x8 x9 x12 x14 x15 x16 x17 x18 x19 x20 x21 x22 x23 x24 x25 x26 x27 x28 x29 x30 x31 x32 x33 x34 x35 x36 x37 x38 x39 x40 x41 x42 x43 x44 x45 x46 x47 x48 x49 x50 x51 x52 x53 x54 x55 x56 x57 x58 x59 x60 x61 x62 x63 x64 x65 x66 x67 x68 x69 x70 x71 x72 x73 x74 x75 x76 x77 x78 x79 x80 x81 x82 x83 x84 x85 x110 x111 x112 x113 x114 : Value) (u : Nat → Value) : Act := { tmps := #[.pointer (some ⟨y, 0, none⟩), .int .i64 at_, .int .i64 num, x3, x4, x5, x6, x7, x8, x9, .int .i64 K, tv, x12, bv, x14, x15, x16, x17, x18, x19, x20, x21, x22, x23, x24, x25, x26, x27, x28, x29, x30, x31, x32, x33, x34, x35, x36, x37, x38, x39, x40, x41, x42, x43, x44, x45, x46, x47, x48, x49, x50, x51, x52, x53, x54, x55, x56, x57, x58, x59, x60, x61, x62, x63, x64, x65, x66, x67, x68, x69, x70, x71, x72, x73, x74, x75, x76, x77, x78, x79, x80, x81, x82, x83, x84, x85, u 86, u 87, u 88, u 89, u 90, u 91, u 92, u 93, u 94, u 95, u 96, u 97, u 98, u 99, u 100, u 101, u 102, u 103, u 104, u 105, u 106, u 107, u 108, u 109, x110, x111, x112, x113, x114], defers := [] }
structure NxAT (y gl n cl at_ K : Nat) (num : Int) (tv bv sv : Value) (BD FT PK : List Int) (x3 x4 x5 x6 x7 x8 x9 x12 x14 x15 x16 x17 x18 x19 x20 x21 x22 x23 x24 x25 x26 x27 x28 x29 x30 x31 x32 x33 x34 x35 x36 x37 x38 x39 x40 x41 x42 x43 x44 x45 x46 x47 x48 x49 x50 x51 x52 x53 x54 x55 x56 x57 x58 x59 x60 x61 x62 x63 x64 x65 x66 x67 x68 x69 x70 x71 x72 x73 x74 x75 x76 x77 x78 x79 x80 x81 x82 x83 x84 x85 x110 x111 x112 x113 x114 : Value) (W : World) (D : Nat → Bool) (u : Nat → Value) (w : World) : Prop where
  bel : Below W.heap.size W w
  s0 : D 0 = true → u 86 = .int .i64 num
  s1 : D 1 = true → u 87 = bv
  s2 : D 2 = true → Sl w (u 88) ((padUp (headT num BD)).map (Value.int .u8))
  s3 : D 3 = true → u 89 = .string (strOfNums (padUp (headT num BD)))
  s4 : D 4 = true → u 90 = tv
  s5 : D 5 = true → u 91 = .string (strOfNums FT)
  s6 : D 6 = true → u 92 = .bool true
  s7 : D 7 = true → u 93 = .bool true
  s8 : D 8 = true → True
  s9 : D 9 = true → True
  s10 : D 10 = true → True
  s11 : D 11 = true → True
  s12 : D 12 = true → True
  s13 : D 13 = true → True
  s14 : D 14 = true → True
  s15 : D 15 = true → True
  s16 : D 16 = true → True
  s17 : D 17 = true → True
  s18 : D 18 = true → True
  s19 : D 19 = true → True
  s20 : D 20 = true → True
  s21 : D 21 = true → True
  s22 : D 22 = true → True
  s23 : D 23 = true → u 109 = .bool true
theorem NxAT.grow {y gl n cl at_ K : Nat} {num : Int} {tv bv sv : Value} {BD FT PK : List Int} {x3 x4 x5 x6 x7 x8 x9 x12 x14 x15 x16 x17 x18 x19 x20 x21 x22 x23 x24 x25 x26 x27 x28 x29 x30 x31 x32 x33 x34 x35 x36 x37 x38 x39 x40 x41 x42 x43 x44 x45 x46 x47 x48 x49 x50 x51 x52 x53 x54 x55 x56 x57 x58 x59 x60 x61 x62 x63 x64 x65 x66 x67 x68 x69 x70 x71 x72 x73 x74 x75 x76 x77 x78 x79 x80 x81 x82 x83 x84 x85 x110 x111 x112 x113 x114 : Value} {W : World} {D : Nat → Bool} {u : Nat → Value} {w w' : World} (h : NxAT y gl n cl at_ K num tv bv sv BD FT PK x3 x4 x5 x6 x7 x8 x9 x12 x14 x15 x16 x17 x18 x19 x20 x21 x22 x23 x24 x25 x26 x27 x28 x29 x30 x31 x32 x33 x34 x35 x36 x37 x38 x39 x40 x41 x42 x43 x44 x45 x46 x47 x48 x49 x50 x51 x52 x53 x54 x55 x56 x57 x58 x59 x60 x61 x62 x63 x64 x65 x66 x67 x68 x69 x70 x71 x72 x73 x74 x75 x76 x77 x78 x79 x80 x81 x82 x83 x84 x85 x110 x111 x112 x113 x114 W D u w) (hb : Below w.heap.size w w') : NxAT y gl n cl at_ K num tv bv sv BD FT PK x3 x4 x5 x6 x7 x8 x9 x12 x14 x15 x16 x17 x18 x19 x20 x21 x22 x23 x24 x25 x26 x27 x28 x29 x30 x31 x32 x33 x34 x35 x36 x37 x38 x39 x40 x41 x42 x43 x44 x45 x46 x47 x48 x49 x50 x51 x52 x53 x54 x55 x56 x57 x58 x59 x60 x61 x62 x63 x64 x65 x66 x67 x68 x69 x70 x71 x72 x73 x74 x75 x76 x77 x78 x79 x80 x81 x82 x83 x84 x85 x110 x111 x112 x113 x114 W D u w' :=
  ⟨below_trans2 h.bel hb, h.s0, h.s1, (fun q => by have h := h.s2 q; exact (h.below hb (Nat.le_refl _))), h.s3, h.s4, h.s5, h.s6, h.s7, h.s8, h.s9, h.s10, h.s11, h.s12, h.s13, h.s14, h.s15, h.s16, h.s17, h.s18, h.s19, h.s20, h.s21, h.s22, h.s23⟩
def NxAInv (y gl n cl at_ K : Nat) (num : Int) (tv bv sv : Value) (BD FT PK : List Int) (x3 x4 x5 x6 x7 x8 x9 x12 x14 x15 x16 x17 x18 x19 x20 x21 x22 x23 x24 x25 x26 x27 x28 x29 x30 x31 x32 x33 x34 x35 x36 x37 x38 x39 x40 x41 x42 x43 x44 x45 x46 x47 x48 x49 x50 x51 x52 x53 x54 x55 x56 x57 x58 x59 x60 x61 x62 x63 x64 x65 x66 x67 x68 x69 x70 x71 x72 x73 x74 x75 x76 x77 x78 x79 x80 x81 x82 x83 x84 x85 x110 x111 x112 x113 x114 : Value) (W : World) (D : Nat → Bool) (a : Act) (w : World) : Prop := ∃ u, a = NxAAct y gl n cl at_ K num tv bv sv BD FT PK x3 x4 x5 x6 x7 x8 x9 x12 x14 x15 x16 x17 x18 x19 x20 x21 x22 x23 x24 x25 x26 x27 x28 x29 x30 x31 x32 x33 x34 x35 x36 x37 x38 x39 x40 x41 x42 x43 x44 x45 x46 x47 x48 x49 x50 x51 x52 x53 x54 x55 x56 x57 x58 x59 x60 x61 x62 x63 x64 x65 x66 x67 x68 x69 x70 x71 x72 x73 x74 x75 x76 x77 x78 x79 x80 x81 x82 x83 x84 x85 x110 x111 x112 x113 x114 u ∧ NxAT y gl n cl at_ K num tv bv sv BD FT PK x3 x4 x5 x6 x7 x8 x9 x12 x14 x15 x16 x17 x18 x19 x20 x21 x22 x23 x24 x25 x26 x27 x28 x29 x30 x31 x32 x33 x34 x35 x36 x37 x38 x39 x40 x41 x42 x43 x44 x45 x46 x47 x48 x49 x50 x51 x52 x53 x54 x55 x56 x57 x58 x59 x60 x61 x62 x63 x64 x65 x66 x67 x68 x69 x70 x71 x72 x73 x74 x75 x76 x77 x78 x79 x80 x81 x82 x83 x84 x85 x110 x111 x112 x113 x114 W D u w
abbrev NxBAct (y gl n cl at_ K : Nat) (num : Int) (tv bv sv : Value) (BD FT PK : List Int) (x3 x4 x5 x6 x7 x8 x9 x12 x14 x15 x16 x17 x18 x19 x20 x21 x22 x23 x24 x25 x26 x27 x28 x29 x30 x31 x32 x33 x34 x35 x36 x37 x38 x39 x40 x41 x42 x43 x44 x45 x46 x47 x48 x49 x50 x51 x52 x53 x54 x55 x56 x57 x58 x59 x60 x61 x62 x63 x64 x65 x66 x67 x68 x69 x70 x71 x72 x73 x74 x75 x76 x77 x78 x79 x80 x81 x82 x83 x84 x85 x110 x111 x112 x113 x114 : Value) (CB : Bool) (u : Nat → Value) : Act := { tmps := #[.pointer (some ⟨y, 0, none⟩), .int .i64 at_, .int .i64 num, x3, x4, x5, x6, x7, x8, x9, .int .i64 K, tv, x12, bv, x14, x15, x16, x17, x18, x19, x20, x21, x22, x23, x24, x25, x26, x27, x28, x29, x30, x31, x32, x33, x34, x35, x36, x37, x38, x39, x40, x41, x42, x43, x44, x45, x46, x47, x48, x49, x50, x51, x52, x53, x54, x55, x56, x57, x58, x59, x60, x61, x62, x63, x64, x65, x66, x67, x68, x69, x70, x71, x72, x73, x74, x75, x76, x77, x78, x79, x80, x81, x82, x83, x84, x85, u 86, u 87, u 88, u 89, u 90, u 91, u 92, u 93, u 94, u 95, u 96, u 97, u 98, u 99, u 100, u 101, u 102, u 103, u 104, u 105, u 106, u 107, u 108, u 109, x110, x111, x112, x113, x114], defers := [] }
structure NxBT (y gl n cl at_ K : Nat) (num : Int) (tv bv sv : Value) (BD FT PK : List Int) (x3 x4 x5 x6 x7 x8 x9 x12 x14 x15 x16 x17 x18 x19 x20 x21 x22 x23 x24 x25 x26 x27 x28 x29 x30 x31 x32 x33 x34 x35 x36 x37 x38 x39 x40 x41 x42 x43 x44 x45 x46 x47 x48 x49 x50 x51 x52 x53 x54 x55 x56 x57 x58 x59 x60 x61 x62 x63 x64 x65 x66 x67 x68 x69 x70 x71 x72 x73 x74 x75 x76 x77 x78 x79 x80 x81 x82 x83 x84 x85 x110 x111 x112 x113 x114 : Value) (CB : Bool) (W : World) (D : Nat → Bool) (u : Nat → Value) (w : World) : Prop where
  bel : Below W.heap.size W w
  s0 : D 0 = true → u 86 = .int .i64 num
  s1 : D 1 = true → u 87 = bv
  s2 : D 2 = true → Sl w (u 88) ((padUp (headT num BD)).map (Value.int .u8))
  s3 : D 3 = true → u 89 = .string (strOfNums (padUp (headT num BD)))
  s4 : D 4 = true → u 90 = tv
  s5 : D 5 = true → u 91 = .string (strOfNums FT)
  s6 : D 6 = true → u 92 = .bool false
  s7 : D 7 = true → u 93 = .bool false
  s8 : D 8 = true → u 94 = .int .i64 num
  s9 : D 9 = true → u 95 = tv
  s10 : D 10 = true → Sl w (u 96) ((padUp (markQ num (FT.length / 64) (sumI FT))).map (Value.int .u8))
  s11 : D 11 = true → u 97 = .string (strOfNums (padUp (markQ num (FT.length / 64) (sumI FT))))
  s12 : D 12 = true → u 98 = .pointer (some ⟨y, 0, none⟩)
  s13 : D 13 = true → u 99 = .pointer (some ⟨y, 0, none⟩)
  s14 : D 14 = true → u 100 = .pointer (some ⟨y, 0, none⟩)
  s15 : D 15 = true → u 101 = .slice (some ⟨gl, 0, none⟩) n cl
  s16 : D 16 = true → u 102 = .int .i64 at_
  s17 : D 17 = true → u 103 = .int .i64 K
  s18 : D 18 = true → u 104 = .int .i64 ((at_ : Int) + (K : Int))
  s19 : D 19 = true → u 105 = .pointer (some ⟨gl, at_ + K, none⟩)
  s20 : D 20 = true → u 106 = sv
  s21 : D 21 = true → u 107 = .string (strOfNums PK)
  s22 : D 22 = true → u 108 = .bool CB
  s23 : D 23 = true → u 109 = .bool CB
theorem NxBT.grow {y gl n cl at_ K : Nat} {num : Int} {tv bv sv : Value} {BD FT PK : List Int} {x3 x4 x5 x6 x7 x8 x9 x12 x14 x15 x16 x17 x18 x19 x20 x21 x22 x23 x24 x25 x26 x27 x28 x29 x30 x31 x32 x33 x34 x35 x36 x37 x38 x39 x40 x41 x42 x43 x44 x45 x46 x47 x48 x49 x50 x51 x52 x53 x54 x55 x56 x57 x58 x59 x60 x61 x62 x63 x64 x65 x66 x67 x68 x69 x70 x71 x72 x73 x74 x75 x76 x77 x78 x79 x80 x81 x82 x83 x84 x85 x110 x111 x112 x113 x114 : Value} {CB : Bool} {W : World} {D : Nat → Bool} {u : Nat → Value} {w w' : World} (h : NxBT y gl n cl at_ K num tv bv sv BD FT PK x3 x4 x5 x6 x7 x8 x9 x12 x14 x15 x16 x17 x18 x19 x20 x21 x22 x23 x24 x25 x26 x27 x28 x29 x30 x31 x32 x33 x34 x35 x36 x37 x38 x39 x40 x41 x42 x43 x44 x45 x46 x47 x48 x49 x50 x51 x52 x53 x54 x55 x56 x57 x58 x59 x60 x61 x62 x63 x64 x65 x66 x67 x68 x69 x70 x71 x72 x73 x74 x75 x76 x77 x78 x79 x80 x81 x82 x83 x84 x85 x110 x111 x112 x113 x114 CB W D u w) (hb : Below w.heap.size w w') : NxBT y gl n cl at_ K num tv bv sv BD FT PK x3 x4 x5 x6 x7 x8 x9 x12 x14 x15 x16 x17 x18 x19 x20 x21 x22 x23 x24 x25 x26 x27 x28 x29 x30 x31 x32 x33 x34 x35 x36 x37 x38 x39 x40 x41 x42 x43 x44 x45 x46 x47 x48 x49 x50 x51 x52 x53 x54 x55 x56 x57 x58 x59 x60 x61 x62 x63 x64 x65 x66 x67 x68 x69 x70 x71 x72 x73 x74 x75 x76 x77 x78 x79 x80 x81 x82 x83 x84 x85 x110 x111 x112 x113 x114 CB W D u w' :=
  ⟨below_trans2 h.bel hb, h.s0, h.s1, (fun q => by have h := h.s2 q; exact (h.below hb (Nat.le_refl _))), h.s3, h.s4, h.s5, h.s6, h.s7, h.s8, h.s9, (fun q => by have h := h.s10 q; exact (h.below hb (Nat.le_refl _))), h.s11, h.s12, h.s13, h.s14, h.s15, h.s16, h.s17, h.s18, h.s19, h.s20, h.s21, h.s22, h.s23⟩
def NxBInv (y gl n cl at_ K : Nat) (num : Int) (tv bv sv : Value) (BD FT PK : List Int) (x3 x4 x5 x6 x7 x8 x9 x12 x14 x15 x16 x17 x18 x19 x20 x21 x22 x23 x24 x25 x26 x27 x28 x29 x30 x31 x32 x33 x34 x35 x36 x37 x38 x39 x40 x41 x42 x43 x44 x45 x46 x47 x48 x49 x50 x51 x52 x53 x54 x55 x56 x57 x58 x59 x60 x61 x62 x63 x64 x65 x66 x67 x68 x69 x70 x71 x72 x73 x74 x75 x76 x77 x78 x79 x80 x81 x82 x83 x84 x85 x110 x111 x112 x113 x114 : Value) (CB : Bool) (W : World) (D : Nat → Bool) (a : Act) (w : World) : Prop := ∃ u, a = NxBAct y gl n cl at_ K num tv bv sv BD FT PK x3 x4 x5 x6 x7 x8 x9 x12 x14 x15 x16 x17 x18 x19 x20 x21 x22 x23 x24 x25 x26 x27 x28 x29 x30 x31 x32 x33 x34 x35 x36 x37 x38 x39 x40 x41 x42 x43 x44 x45 x46 x47 x48 x49 x50 x51 x52 x53 x54 x55 x56 x57 x58 x59 x60 x61 x62 x63 x64 x65 x66 x67 x68 x69 x70 x71 x72 x73 x74 x75 x76 x77 x78 x79 x80 x81 x82 x83 x84 x85 x110 x111 x112 x113 x114 CB u ∧ NxBT y gl n cl at_ K num tv bv sv BD FT PK x3 x4 x5 x6 x7 x8 x9 x12 x14 x15 x16 x17 x18 x19 x20 x21 x22 x23 x24 x25 x26 x27 x28 x29 x30 x31 x32 x33 x34 x35 x36 x37 x38 x39 x40 x41 x42 x43 x44 x45 x46 x47 x48 x49 x50 x51 x52 x53 x54 x55 x56 x57 x58 x59 x60 x61 x62 x63 x64 x65 x66 x67 x68 x69 x70 x71 x72 x73 x74 x75 x76 x77 x78 x79 x80 x81 x82 x83 x84 x85 x110 x111 x112 x113 x114 CB W D u w

set_option maxRecDepth 100000 in
set_option maxHeartbeats 8000000 in
theorem rnext_any (w : World) (y gl gk gw : Nat) (d : DSt) (at_ : Nat) (num : Int) (h : RDev w y gl gk gw d) (hat : at_ ≤ d.l.length) (hn0 : 0 ≤ num) (hn1 : num ≤ 20000) :
    Calls Tryd.prog 66 #[.pointer (some ⟨y, 0, none⟩), .int .i64 at_, .int .i64 num] w fun e w' => ∃ xa xn xc ln ok, e = .returned (.tuple #[.slice xa xn xc, .int .i64 ln, .bool ok]) ∧ rnextX d.img at_ num (.slice xa xn xc) ln ok w' w.heap.size ∧ Below w.heap.size w w' := by
  have HD := Lib.hid h
  obtain ⟨cl, ck, cw, hcl, _, _, k⟩ := h.blk
  obtain ⟨hp1, hp2⟩ := h.pos
  have H64 := Lib.hid (img_64 h.ok)
  have HB := Lib.hid (img_B h.ok)
  have HIL := Lib.hid (img_len d)
  have HTR := Lib.hid (show TRow w gl d.img from h.rl)
  obtain ⟨n, hn⟩ : ∃ n, d.l.length = n := ⟨_, rfl⟩
  rw [hn] at k hcl hp1 hp2 hat
  rw [hn] at HIL
  have c0 : w.cell? ⟨y, 0, none⟩ = some (.slice (some ⟨gl, 0, none⟩) n cl) := k.cell 0
  have HY := Lib.hid (And.intro c0 k.lt)
  have HNN := Lib.hid hn
  generalize d.img = img at *
  clear k h hn
  by_cases h0 : at_ = n
  · have hge : (n : Int) ≤ (at_ : Int) := by omega
    have HNO := Lib.hid (show nextI (img.drop at_) num = none from by rw [List.drop_eq_nil_of_le (by rw [HIL.out]; omega)]; exact next_nil)
    clear h0
    go_enter Tryd.func66, Tryd.ntmps66
    go_wp2
    refine bodyPost_ret (results_tmp3 rfl _ _ _) rfl ?_
    exact ⟨_, _, _, _, _, rfl, ⟨fun e => (by cases e), fun _ => HNO.out⟩, Below.refl _ _⟩
  · have hlt : at_ < n := by omega
    have hltI : ¬ (n : Int) ≤ (at_ : Int) := by omega
    have hltI2 : (at_ : Int) < (n : Int) := by omega
    obtain ⟨u, cu, hu⟩ := HTR.out.get (i := at_) (by rw [HIL.out]; exact hlt)
    have HU := Lib.hid hu
    have hg0 : (img.drop at_).getD 0 [] = img.getD at_ [] := by rw [List.getD_eq_getElem?_getD, List.getElem?_drop, Nat.add_zero, ← List.getD_eq_getElem?_getD]
    have h64a := H64.out (img.getD at_ []) (getD_mem (by rw [HIL.out]; exact hlt))
    have HBA := Lib.hid (HB.out (img.getD at_ []) (getD_mem (by rw [HIL.out]; exact hlt)))
    have HG0 := Lib.hid hg0
    obtain ⟨ub, uc, e, _⟩ := World.ownsRow.form hu (by rw [h64a]; decide)
    subst e
    rw [h64a] at HU
    have HSU := Lib.hid (show Sl w (.slice (some ⟨ub, 0, none⟩) 64 uc) ((img.getD at_ []).map (Value.int .u8)) from by have h := hu.sl; rw [h64a] at h; exact h)
    have hucc : 64 ≤ uc ∧ uc ≤ 9223372036854775807 := by
      obtain ⟨a1, c1, e1, e2, e3, _⟩ := HSU.out
      rw [List.length_map, h64a] at e1 e2
      cases e1
      unfold maxLen at e3
      exact ⟨e2, e3⟩
    obtain ⟨huc1, huc2⟩ := hucc
    have HLA := Lib.hid (show lenAt (img.drop at_) = valI (((img.getD at_ []).drop 8).take 4) from by unfold lenAt; rw [hg0])
    have H6A := Lib.hid h64a
    rw [h64a] at cu
    have HF8 := Lib.hid (fun (hk : nextOk (img.drop at_) num = true) => (by have h := first8 hk; rw [hg0] at h; exact h : (img.getD at_ []).take 8 = numI num))
    have HV8 := Lib.hid (rnumber_any (.slice (some ⟨ub, 0, none⟩) 8 uc) ((img.getD at_ []).take 8) w (by rw [List.length_take]; omega) (HBA.out.take 8) (by rw [List.map_take]; exact HSU.out.take 8 (by rw [List.length_map, h64a]; decide)))
    have HV4 := Lib.hid (rnumber_any (.slice (some ⟨ub, 8, none⟩) 4 (uc - 8)) (((img.getD at_ []).drop 8).take 4) w (by rw [List.length_take]; omega) ((HBA.out.drop 8).take 4) (by have h := HSU.out.part 8 4 (uc - 8) (by rw [h64a]; decide) (by omega) (by unfold maxLen; omega); rw [Nat.zero_add] at h; exact h))
    have HN4 := Lib.hid (numW_val (l := ((img.getD at_ []).drop 8).take 4) (by rw [List.length_take]; omega) ((HBA.out.drop 8).take 4))
    rw [HN4.out, ← HLA.out] at HV4
    generalize img.getD at_ [] = p0 at *
    clear hg0 h64a hu hcl
    by_cases h8 : numW (p0.take 8) = num
    · have h8b : (numW (p0.take 8) == num) = true := by rw [beq_iff_eq]; exact h8
      obtain ⟨N, hN⟩ : ∃ N : Nat, lenAt (img.drop at_) = N := ⟨(lenAt (img.drop at_)).toNat, by have := (lenAt_bd (img := img.drop at_) (fun p hp => HB.out p (List.mem_of_mem_drop hp))).1; omega⟩
      have hNb : N < 4294967296 := by have := (lenAt_bd (img := img.drop at_) (fun p hp => HB.out p (List.mem_of_mem_drop hp))).2; omega
      rw [hN] at HV4
      have HNL := Lib.hid hN
      obtain ⟨K, hK⟩ : ∃ K : Nat, (12 + (N : Int) + 63) / 64 = K := ⟨((12 + (N : Int) + 63) / 64).toNat, by omega⟩
      have HK := Lib.hid (show secsOf (lenAt (img.drop at_)) = K from by rw [hN]; unfold secsOf; omega)
      clear hN
      have h8x := h8b
      clear h8
      generalize hnw : numW (p0.take 8) = nw at *
      clear hnw
      go_enter Tryd.func66, Tryd.ntmps66
      go_wp2_with fail
      refine HV8.out.mono ?_
      rintro e w1 ⟨rfl, rfl⟩
      go_wp2_with fail
      refine HV4.out.mono ?_
      rintro e w1 ⟨rfl, rfl⟩
      by_cases hN1 : N < 1
      · have hN1I : ((N : Int) < 1) := by omega
        have HNO := Lib.hid (show ¬ nextFit (img.drop at_) from fun q => by have := q.1; have := HNL.out; omega)
        go_wp2
        refine bodyPost_ret (results_tmp3 rfl _ _ _) rfl ?_
        exact ⟨_, _, _, _, _, rfl, ⟨fun e => (by cases e), fun _ => nextI_no HNO.out⟩, Below.refl _ _⟩
      · have hN1I : ¬ ((N : Int) < 1) := by omega
        by_cases hN2 : 4000 < N
        · have hN2I : ((4000 : Int) < N) := by omega
          have HNO := Lib.hid (show ¬ nextFit (img.drop at_) from fun q => by have := q.2.1; have := HNL.out; omega)
          go_wp2
          refine bodyPost_ret (results_tmp3 rfl _ _ _) rfl ?_
          exact ⟨_, _, _, _, _, rfl, ⟨fun e => (by cases e), fun _ => nextI_no HNO.out⟩, Below.refl _ _⟩
        · have hN2I : ¬ ((4000 : Int) < N) := by omega
          by_cases hN3 : (at_ : Int) + (K : Int) < (n : Int)
          · have hfit : (1 ≤ (N : Int) ∧ (N : Int) ≤ 4000) ∧ (at_ : Int) + (K : Int) < (n : Int) := ⟨⟨by omega, by omega⟩, hN3⟩
            have HFIT := Lib.hid (show nextFit (img.drop at_) from ⟨by have := HNL.out; omega, by have := HNL.out; omega, by rw [HK.out, List.length_drop, HIL.out]; omega⟩)
            have hK64 : K ≤ 64 := by omega
            have hKN : 12 + N ≤ 64 * K := by omega
            have HKN := Lib.hid (And.intro hKN (And.intro hK64 (show at_ + K < n by omega)))
            have HNB := Lib.hid (show 1 ≤ N ∧ N ≤ 4000 by omega)
            clear hN1 hN2 hK64 hKN
            go_wp2
            go_loopw [11, 65] (fun x iv wr => ∃ j : Nat, j ≤ K ∧ iv = .int .i64 j ∧ wr.ownsRow w.heap.size 5 1 x (64 * j) ((((img.drop at_).take j).flatten).map (Value.int .u8)) ∧ Below w.heap.size w wr) (fun _ iv _ => K - (intOf iv).toNat)
            case atStart => exact ⟨0, by omega, rfl, World.ownsRow_nil _ _ _ _, Below.refl _ _⟩
            case round =>
              obtain ⟨j, hj, rfl, hown, hbr⟩ := hrel
              obtain ⟨xa, xn, xc, hx⟩ := (Sl.of_owns hown).val
              subst hx
              have HO := Lib.hid hown
              have HBR := Lib.hid hbr
              have c0 := (hbr.cell (p := ⟨y, 0, none⟩) HY.out.2).trans HY.out.1
              clear hown hbr
              by_cases hjk : j < K
              · have hjI : (j : Int) < (K : Int) := by omega
                have hij : at_ + j < n := by have := HKN.out.2.2; omega
                obtain ⟨u2, cu2, hu2⟩ := HTR.out.get (i := at_ + j) (by rw [HIL.out]; exact hij)
                have cu2 := (HBR.out.cell (p := ⟨gl, at_ + j, none⟩) (by obtain ⟨cur, kk, _⟩ := HTR.out; exact kk.lt)).trans cu2
                have hl2 := H64.out (img.getD (at_ + j) []) (getD_mem (by rw [HIL.out]; exact hij))
                have HS2 := Lib.hid (hu2.sl.below HBR.out (Nat.le_refl _))
                obtain ⟨a2, n2, c2, e2⟩ := hu2.sl.val
                subst e2
                have HFL := Lib.hid (show ((img.drop at_).take (j + 1)).flatten = ((img.drop at_).take j).flatten ++ img.getD (at_ + j) [] from by
                  rw [List.take_succ_eq_append_getElem (by rw [List.length_drop, HIL.out]; omega), List.flatten_append, List.getElem_drop, List.getD_eq_getElem?_getD, List.getElem?_eq_getElem (by rw [HIL.out]; exact hij)]
                  simp)
                have HL2 := Lib.hid hl2
                have hwj : IntKind.i64.wrap ((at_ : Int) + (j : Int)) = (at_ : Int) + (j : Int) := by rw [IntKind.wrap_i64]; omega
                have hijI : (at_ : Int) + (j : Int) < (n : Int) := by omega
                obtain ⟨i0, hi, hz0, hz1, hz2⟩ := info_parts info8
                have hone : ∀ (xs : List Int), ∀ u ∈ xs.map (Value.int .u8), u.oneCell' = true := fun xs u hu => by obtain ⟨x, _, rfl⟩ := List.mem_map.1 hu; rfl
                generalize img.getD (at_ + j) [] = pj at *
                clear hu2 hl2
                go_wp2_with (at_builtin; refine wpList_append_sl rfl _ _ 26 rfl w.heap.size 5 i0 (.int .u8 0) 1 Tryd.underlying26 hi hz0 hz1 hz2 rfl (.slice xa xn xc) (64 * j) _ rfl HO.out (.slice a2 n2 c2) (pj.map (Value.int .u8)) rfl HS2.out (hone _) (by have := HL2.out; have := HKN.out.2.1; rw [List.length_map]; unfold maxLen; omega) (by have := HL2.out; have := HKN.out.2.1; rw [List.length_map]; omega) HBR.out.size ?_)
                intro v5 w5 ho5 hg5
                have hb5 : Below w.heap.size w w5 := HBR.out.grown hg5 HBR.out.size (fun k hk => (HO.out.lt k hk).1)
                have HO5 := Lib.hid (show w5.ownsRow w.heap.size 5 1 v5 (64 * (j + 1)) ((((img.drop at_).take (j + 1)).flatten).map (Value.int .u8)) from by
                  have h := own8 (ys := ((img.drop at_).take j).flatten ++ pj) ho5 (by simp)
                  rw [← HFL.out] at h
                  have hl : ((img.drop at_).take (j + 1)).flatten.length = 64 * (j + 1) := by
                    rw [flat64_len (fun p hp => H64.out p (List.mem_of_mem_drop (List.mem_of_mem_take hp))), List.length_take, List.length_drop, HIL.out]
                    omega
                  rw [hl] at h
                  exact h)
                have HB5 := Lib.hid hb5
                obtain ⟨v5a, v5n, v5c, rfl⟩ := (Sl.of_owns ho5).val
                clear ho5 hg5 hb5
                go_wp2
                go_roundw
                case rel => exact ⟨j + 1, hjk, by go_num, HO5.out, HB5.out⟩
                case measure => simp [intOf]; omega
              · obtain rfl : K = j := by omega
                have hjI : ¬ (K : Int) < (K : Int) := by omega
                have hFL : ((img.drop at_).take K).flatten.length = 64 * K := by
                  rw [flat64_len (fun p hp => H64.out p (List.mem_of_mem_drop (List.mem_of_mem_take hp))), List.length_take, List.length_drop, HIL.out]
                  have := HKN.out.2.2
                  omega
                obtain ⟨tg, tc, e, htg, htl⟩ := World.ownsRow.form HO.out (by have := HKN.out.1; omega)
                cases e
                have HTS := Lib.hid (show Sl wr (.slice (some ⟨tg, 0, none⟩) (64 * K) xc) ((((img.drop at_).take K).flatten).map (Value.int .u8)) from Sl.of_owns HO.out)
                have htc : 64 * K ≤ xc ∧ xc ≤ 9223372036854775807 := by
                  obtain ⟨a1, c1, e1, e2, e3, _⟩ := HTS.out
                  rw [List.length_map, hFL] at e1 e2
                  cases e1
                  unfold maxLen at e3
                  exact ⟨e2, e3⟩
                obtain ⟨htc1, htc2⟩ := htc
                have HFL := Lib.hid hFL
                have h12c : 12 + N ≤ xc := by have := HKN.out.1; omega
                have h12t : 12 + N ≤ 64 * K := HKN.out.1
                have h12 : 12 + N - 12 = N := by omega
                have HBO := Lib.hid (show (((((img.drop at_).take K).flatten).drop 12).take N) = bodyI (img.drop at_) from by unfold bodyI; rw [HK.out, HNL.out]; rfl)
                have hbE : Below wr.heap.size wr (wr.alloc (.cells #[] 5)) := (Below.refl _ _).alloc (Nat.le_refl _) _
                have HE0 := Lib.hid (show (wr.alloc (.cells #[] 5)).ownsRow wr.heap.size 5 1 (.slice (some ⟨wr.heap.size, 0, none⟩) 0 0) 0 [] from
                  ⟨rfl, .inr ⟨wr.heap.size, 0, #[], rfl, Nat.le_refl _, heap_alloc_new _ _, Nat.le_refl _, by unfold maxLen; omega, rfl, rfl⟩⟩)
                have HTP := Lib.hid (show Sl (wr.alloc (.cells #[] 5)) (.slice (some ⟨tg, 12, none⟩) N (xc - 12)) ((bodyI (img.drop at_)).map (Value.int .u8)) from by
                  have h := (HTS.out.part 12 N (xc - 12) (by rw [hFL]; exact h12t) (by omega) (by unfold maxLen; omega)).below hbE (Nat.le_refl _)
                  rw [HBO.out, Nat.zero_add] at h
                  exact h)
                have HBL := Lib.hid (show (bodyI (img.drop at_)).length = N from by rw [bodyI_len (fun p hp => H64.out p (List.mem_of_mem_drop hp)) HFIT.out, HNL.out]; rfl)
                have HBDB := Lib.hid (bodyI_isB (img := img.drop at_) (fun p hp => HB.out p (List.mem_of_mem_drop hp)))
                have HBE := Lib.hid hbE
                clear hFL hbE htg htl
                go_wp2_with (at_builtin; refine wpList_append_bytes rfl _ _ rfl wr.heap.size (.slice (some ⟨wr.heap.size, 0, none⟩) 0 0) 0 [] rfl HE0.out (.slice (some ⟨tg, 12, none⟩) (12 + N - 12) (xc - 12)) (bodyI (img.drop at_)) rfl (by rw [h12]; exact HTP.out) (by rw [HBL.out]; have := HNB.out; omega) HBE.out.size ?_)
                intro v6 w6 ho6 hg6
                have hb6 : Below wr.heap.size wr w6 := HBE.out.grown hg6 HBE.out.size (fun k hk => (HE0.out.lt k hk).1)
                have HO6 := Lib.hid (own8 (ys := bodyI (img.drop at_)) ho6 (by simp))
                have HT6 := Lib.hid (HTS.out.below hb6 (Nat.le_refl _))
                have HB6 := Lib.hid (below_trans2 HBR.out hb6)
                obtain ⟨v6a, v6n, v6c, rfl⟩ := (Sl.of_owns ho6).val
                clear ho6 hg6 hb6 HE0 HTP HBE HTS
                go_upto_region 14 with (fail)
                have HTX := Lib.hid (fun w' (hb : Below w6.heap.size w6 w') => rtext_own num (.slice v6a v6n v6c) (bodyI (img.drop at_)) w' (by omega) (by omega) (by rw [HBL.out]; exact HNB.out.2) ((Sl.of_owns HO6.out).below hb (Nat.le_refl _)))
                have HFTB := Lib.hid (show IsB ((img.drop at_).take K).flatten from flat_isB fun p hp => HB.out p (List.mem_of_mem_drop (List.mem_of_mem_take hp)))
                have HMX := Lib.hid (fun w' (hb : Below w6.heap.size w6 w') => rmark_own num (.slice (some ⟨tg, 0, none⟩) (64 * K) xc) ((img.drop at_).take K).flatten w' (by omega) (by omega) (by rw [HFL.out]; have := HKN.out.2.1; omega) HFTB.out (HT6.out.below hb (Nat.le_refl _)))
                obtain ⟨u9, cu9, hu9⟩ := HTR.out.get (i := at_ + K) (by rw [HIL.out]; exact HKN.out.2.2)
                obtain ⟨a9, n9, c9, e9⟩ := hu9.sl.val
                subst e9
                have HSS := Lib.hid (hu9.sl.below HB6.out (Nat.le_refl _))
                have HCY := Lib.hid (And.intro ((HB6.out.cell (p := ⟨y, 0, none⟩) HY.out.2).trans HY.out.1) (Nat.lt_of_lt_of_le HY.out.2 HB6.out.size))
                have hgl : gl < w.heap.size := by obtain ⟨cur, kk, _⟩ := HTR.out; exact kk.lt
                have HCS := Lib.hid (And.intro ((HB6.out.cell (p := ⟨gl, at_ + K, none⟩) hgl).trans cu9) (Nat.lt_of_lt_of_le hgl HB6.out.size))
                have HWK := Lib.hid (show IntKind.i64.wrap ((at_ : Int) + (K : Int)) = (at_ : Int) + (K : Int) from by rw [IntKind.wrap_i64]; omega)
                have HLK := Lib.hid (And.intro hN3 (show (0 : Int) ≤ (at_ : Int) + (K : Int) by omega))
                have HPK := Lib.hid (show (img.drop at_).getD K [] = img.getD (at_ + K) [] from by rw [List.getD_eq_getElem?_getD, List.getElem?_drop, ← List.getD_eq_getElem?_getD])
                have HPB := Lib.hid (HB.out (img.getD (at_ + K) []) (getD_mem (by rw [HIL.out]; exact HKN.out.2.2)))
                have HOK := Lib.hid (nextOk_ref (num := num) (fun p hp => H64.out p (List.mem_of_mem_drop hp)) HFIT.out)
                rw [HK.out] at HOK
                have HHB := Lib.hid (show IsB (padUp (headT num (bodyI (img.drop at_)))) from (headT_isB num HBDB.out).append (fun x hx => by obtain ⟨_, rfl⟩ := List.mem_replicate.1 hx; omega))
                clear hu9 cu9 hgl
                by_cases hA : refA (img.drop at_) num K
                · have HSE := Lib.hid (str_eq hA)
                  have HAA := Lib.hid hA
                  by_cases hBq : refB (img.drop at_) num K
                  · have hBq2 : padUp (markQ num (((img.drop at_).take K).flatten.length / 64) (sumI ((img.drop at_).take K).flatten)) = img.getD (at_ + K) [] := by rw [← HPK.out]; exact hBq
                    have HSE2 := Lib.hid (str_eq hBq2)
                    have HNX := Lib.hid (show nextOk (img.drop at_) num = true from HOK.out.2 ⟨hA, hBq⟩)
                    have HNI := Lib.hid (show nextI (img.drop at_) num = some (bodyI (img.drop at_), (laidI num (bodyI (img.drop at_))).length) from by unfold nextI; rw [if_pos HNX.out])
                    have HLL := Lib.hid (show (laidI num (bodyI (img.drop at_))).length = K + 1 from by have := (laid_fit num (fun p hp => H64.out p (List.mem_of_mem_drop hp)) HFIT.out).1; rw [HK.out] at this; exact this)
                    clear hA hBq hBq2
                    generalize hBD : bodyI (img.drop at_) = BD at *
                    generalize hFT : ((img.drop at_).take K).flatten = FT at *
                    generalize hPK : img.getD (at_ + K) [] = PK at *
                    have HBDE := Lib.hid hBD
                    clear hBD hFT hPK
                    refine wp_region_inv2 (NxBInv y gl n cl at_ K num (.slice (some ⟨tg, 0, none⟩) (64 * K) xc) (.slice v6a v6n v6c) (.slice a9 n9 c9) BD FT PK (undef) (undef) (undef) (.slice none 0 0) (.int .i64 0) (.bool false) (.int .i64 (N : Int)) (u12) (.int .i64 (at_ : Int)) (.pointer (some ⟨y, 0, none⟩)) (.pointer (some ⟨y, 0, none⟩)) (.pointer (some ⟨y, 0, none⟩)) (.slice (some ⟨gl, 0, none⟩) n cl) (.int .i64 (n : Int)) (.bool false) (.bool false) (.pointer (some ⟨y, 0, none⟩)) (.pointer (some ⟨y, 0, none⟩)) (.pointer (some ⟨y, 0, none⟩)) (.slice (some ⟨gl, 0, none⟩) n cl) (.int .i64 (at_ : Int)) (.pointer (some ⟨gl, at_, none⟩)) (.slice (some ⟨ub, 0, none⟩) 64 uc) (.slice (some ⟨ub, 0, none⟩) 8 uc) (.int .i64 nw) (.int .i64 num) (.bool false) (.bool false) (.pointer (some ⟨y, 0, none⟩)) (.pointer (some ⟨y, 0, none⟩)) (.pointer (some ⟨y, 0, none⟩)) (.slice (some ⟨gl, 0, none⟩) n cl) (.int .i64 (at_ : Int)) (.pointer (some ⟨gl, at_, none⟩)) (.slice (some ⟨ub, 0, none⟩) 64 uc) (.slice (some ⟨ub, 8, none⟩) 4 (uc - 8)) (.int .i64 (N : Int)) (.int .i64 (N : Int)) (.int .i64 (12 + (N : Int))) (.int .i64 (12 + (N : Int) + 63)) (.int .i64 (K : Int)) (.int .i64 (N : Int)) (.bool (decide ((N : Int) < 1))) (.bool (decide ((N : Int) < 1))) (.int .i64 (N : Int)) (.bool (decide (4000 < (N : Int)))) (.bool (decide ((N : Int) < 1) || decide (4000 < (N : Int)))) (.bool (decide ((N : Int) < 1) || decide (4000 < (N : Int)))) (.int .i64 (at_ : Int)) (.int .i64 (K : Int)) (.int .i64 ((at_ : Int) + (K : Int))) (.pointer (some ⟨y, 0, none⟩)) (.pointer (some ⟨y, 0, none⟩)) (.pointer (some ⟨y, 0, none⟩)) (.slice (some ⟨gl, 0, none⟩) n cl) (.int .i64 (n : Int)) (.bool (decide ((n : Int) ≤ (at_ : Int) + (K : Int)))) (.bool (decide ((N : Int) < 1) || decide (4000 < (N : Int)) || decide ((n : Int) ≤ (at_ : Int) + (K : Int)))) (.int .i64 (K : Int)) (.int .i64 (K : Int)) (.bool false) (u67) (u68) (u69) (u70) (u71) (u72) (u73) (u74) (u75) (u76) (u77) (u78) (u79) (.slice (some ⟨wr.heap.size, 0, none⟩) 0 0) (.slice (some ⟨tg, 0, none⟩) (64 * K) xc) (.int .i64 (N : Int)) (.int .i64 (12 + (N : Int))) (.slice (some ⟨tg, 12, none⟩) N (xc - 12)) (.slice v6a v6n v6c) (undef) (undef) (undef) (undef) (undef) false w6) (by kernel_rfl) (by kernel_rfl) ?start ?step ?fin
                    case start => exact ⟨fun _ => undef, rfl, ⟨(Below.refl _ _).drew, (fun q => by cases q), (fun q => by cases q), (fun q => by cases q), (fun q => by cases q), (fun q => by cases q), (fun q => by cases q), (fun q => by cases q), (fun q => by cases q), (fun q => by cases q), (fun q => by cases q), (fun q => by cases q), (fun q => by cases q), (fun q => by cases q), (fun q => by cases q), (fun q => by cases q), (fun q => by cases q), (fun q => by cases q), (fun q => by cases q), (fun q => by cases q), (fun q => by cases q), (fun q => by cases q), (fun q => by cases q), (fun q => by cases q), (fun q => by cases q)⟩⟩
                    case step =>
                      intro D a w i hi hI hD hcl hn
                      obtain ⟨u, rfl, hX⟩ := hI
                      have hi' : i < 24 := hi
                      clear hi
                      rcases (show i = 0 ∨ i = 1 ∨ i = 2 ∨ i = 3 ∨ i = 4 ∨ i = 5 ∨ i = 6 ∨ i = 7 ∨ i = 8 ∨ i = 9 ∨ i = 10 ∨ i = 11 ∨ i = 12 ∨ i = 13 ∨ i = 14 ∨ i = 15 ∨ i = 16 ∨ i = 17 ∨ i = 18 ∨ i = 19 ∨ i = 20 ∨ i = 21 ∨ i = 22 ∨ i = 23 from by omega) with rfl | rfl | rfl | rfl | rfl | rfl | rfl | rfl | rfl | rfl | rfl | rfl | rfl | rfl | rfl | rfl | rfl | rfl | rfl | rfl | rfl | rfl | rfl | rfl
                      · refine wpOp_plain rfl rfl ?_
                        go_simp
                        exact ⟨upd u 86 (.int .i64 num), rfl, ⟨hX.bel, fun _ => rfl, fun h => hX.s1 h, fun h => hX.s2 h, fun h => hX.s3 h, fun h => hX.s4 h, fun h => hX.s5 h, fun h => hX.s6 h, fun h => hX.s7 h, fun h => hX.s8 h, fun h => hX.s9 h, fun h => hX.s10 h, fun h => hX.s11 h, fun h => hX.s12 h, fun h => hX.s13 h, fun h => hX.s14 h, fun h => hX.s15 h, fun h => hX.s16 h, fun h => hX.s17 h, fun h => hX.s18 h, fun h => hX.s19 h, fun h => hX.s20 h, fun h => hX.s21 h, fun h => hX.s22 h, fun h => hX.s23 h⟩⟩
                      · refine wpOp_plain rfl rfl ?_
                        go_simp
                        exact ⟨upd u 87 (.slice v6a v6n v6c), rfl, ⟨hX.bel, fun h => hX.s0 h, fun _ => rfl, fun h => hX.s2 h, fun h => hX.s3 h, fun h => hX.s4 h, fun h => hX.s5 h, fun h => hX.s6 h, fun h => hX.s7 h, fun h => hX.s8 h, fun h => hX.s9 h, fun h => hX.s10 h, fun h => hX.s11 h, fun h => hX.s12 h, fun h => hX.s13 h, fun h => hX.s14 h, fun h => hX.s15 h, fun h => hX.s16 h, fun h => hX.s17 h, fun h => hX.s18 h, fun h => hX.s19 h, fun h => hX.s20 h, fun h => hX.s21 h, fun h => hX.s22 h, fun h => hX.s23 h⟩⟩
                      · have d0 : D 0 = true := hn 0 (needs_rn (by kernel_rfl))
                        have f0 := hX.s0 d0
                        have d1 : D 1 = true := hn 1 (needs_rn (by kernel_rfl))
                        have f1 := hX.s1 d1
                        refine wpOp_plain rfl rfl ?_
                        go_simp
                        go_at_call 90
                        refine (HTX.out w hX.bel).mono ?_
                        rintro e w3 ⟨x, rfl, hx, hb3⟩
                        have hx := Sl.of_owns hx
                        have hX := hX.grow hb3
                        exact ⟨upd u 88 (x), by simp [upd, f0, f1], ⟨hX.bel, fun h => hX.s0 h, fun h => hX.s1 h, fun _ => hx, fun h => hX.s3 h, fun h => hX.s4 h, fun h => hX.s5 h, fun h => hX.s6 h, fun h => hX.s7 h, fun h => hX.s8 h, fun h => hX.s9 h, fun h => hX.s10 h, fun h => hX.s11 h, fun h => hX.s12 h, fun h => hX.s13 h, fun h => hX.s14 h, fun h => hX.s15 h, fun h => hX.s16 h, fun h => hX.s17 h, fun h => hX.s18 h, fun h => hX.s19 h, fun h => hX.s20 h, fun h => hX.s21 h, fun h => hX.s22 h, fun h => hX.s23 h⟩⟩
                      · have d2 : D 2 = true := hn 2 (needs_rn (by kernel_rfl))
                        have f2 := hX.s2 d2
                        have hcv := f2.conv
                        refine wpOp_plain rfl rfl ?_
                        go_simp
                        exact ⟨upd u 89 (.string (strOfNums (padUp (headT num BD)))), rfl, ⟨hX.bel, fun h => hX.s0 h, fun h => hX.s1 h, fun h => hX.s2 h, fun _ => rfl, fun h => hX.s4 h, fun h => hX.s5 h, fun h => hX.s6 h, fun h => hX.s7 h, fun h => hX.s8 h, fun h => hX.s9 h, fun h => hX.s10 h, fun h => hX.s11 h, fun h => hX.s12 h, fun h => hX.s13 h, fun h => hX.s14 h, fun h => hX.s15 h, fun h => hX.s16 h, fun h => hX.s17 h, fun h => hX.s18 h, fun h => hX.s19 h, fun h => hX.s20 h, fun h => hX.s21 h, fun h => hX.s22 h, fun h => hX.s23 h⟩⟩
                      · refine wpOp_plain rfl rfl ?_
                        go_simp
                        exact ⟨upd u 90 (.slice (some ⟨tg, 0, none⟩) (64 * K) xc), rfl, ⟨hX.bel, fun h => hX.s0 h, fun h => hX.s1 h, fun h => hX.s2 h, fun h => hX.s3 h, fun _ => rfl, fun h => hX.s5 h, fun h => hX.s6 h, fun h => hX.s7 h, fun h => hX.s8 h, fun h => hX.s9 h, fun h => hX.s10 h, fun h => hX.s11 h, fun h => hX.s12 h, fun h => hX.s13 h, fun h => hX.s14 h, fun h => hX.s15 h, fun h => hX.s16 h, fun h => hX.s17 h, fun h => hX.s18 h, fun h => hX.s19 h, fun h => hX.s20 h, fun h => hX.s21 h, fun h => hX.s22 h, fun h => hX.s23 h⟩⟩
                      · have d4 : D 4 = true := hn 4 (needs_rn (by kernel_rfl))
                        have f4 := hX.s4 d4
                        have hcv := (HT6.out.below hX.bel (Nat.le_refl _)).conv
                        refine wpOp_plain rfl rfl ?_
                        go_simp
                        exact ⟨upd u 91 (.string (strOfNums FT)), by simp [upd, f4], ⟨hX.bel, fun h => hX.s0 h, fun h => hX.s1 h, fun h => hX.s2 h, fun h => hX.s3 h, fun h => hX.s4 h, fun _ => rfl, fun h => hX.s6 h, fun h => hX.s7 h, fun h => hX.s8 h, fun h => hX.s9 h, fun h => hX.s10 h, fun h => hX.s11 h, fun h => hX.s12 h, fun h => hX.s13 h, fun h => hX.s14 h, fun h => hX.s15 h, fun h => hX.s16 h, fun h => hX.s17 h, fun h => hX.s18 h, fun h => hX.s19 h, fun h => hX.s20 h, fun h => hX.s21 h, fun h => hX.s22 h, fun h => hX.s23 h⟩⟩
                      · have d3 : D 3 = true := hn 3 (needs_rn (by kernel_rfl))
                        have f3 := hX.s3 d3
                        have d5 : D 5 = true := hn 5 (needs_rn (by kernel_rfl))
                        have f5 := hX.s5 d5
                        have hse := HSE.out
                        refine wpOp_plain rfl rfl ?_
                        go_simp
                        exact ⟨upd u 92 (.bool false), by simp [upd, f3, f5], ⟨hX.bel, fun h => hX.s0 h, fun h => hX.s1 h, fun h => hX.s2 h, fun h => hX.s3 h, fun h => hX.s4 h, fun h => hX.s5 h, fun _ => rfl, fun h => hX.s7 h, fun h => hX.s8 h, fun h => hX.s9 h, fun h => hX.s10 h, fun h => hX.s11 h, fun h => hX.s12 h, fun h => hX.s13 h, fun h => hX.s14 h, fun h => hX.s15 h, fun h => hX.s16 h, fun h => hX.s17 h, fun h => hX.s18 h, fun h => hX.s19 h, fun h => hX.s20 h, fun h => hX.s21 h, fun h => hX.s22 h, fun h => hX.s23 h⟩⟩
                      · have d6 : D 6 = true := hn 6 (needs_rn (by kernel_rfl))
                        have f6 := hX.s6 d6
                        refine wpOp_plain rfl rfl ?_
                        go_simp
                        exact ⟨upd u 93 (.bool false), by simp [upd, f6], ⟨hX.bel, fun h => hX.s0 h, fun h => hX.s1 h, fun h => hX.s2 h, fun h => hX.s3 h, fun h => hX.s4 h, fun h => hX.s5 h, fun h => hX.s6 h, fun _ => rfl, fun h => hX.s8 h, fun h => hX.s9 h, fun h => hX.s10 h, fun h => hX.s11 h, fun h => hX.s12 h, fun h => hX.s13 h, fun h => hX.s14 h, fun h => hX.s15 h, fun h => hX.s16 h, fun h => hX.s17 h, fun h => hX.s18 h, fun h => hX.s19 h, fun h => hX.s20 h, fun h => hX.s21 h, fun h => hX.s22 h, fun h => hX.s23 h⟩⟩
                      · have d7 : D 7 = true := hn 7 (needs_rn (by kernel_rfl))
                        have f7 := hX.s7 d7
                        refine wpOp_wantN rfl ((wanted_rn (k := 7) (b := false) (c := false) (s := 93) rfl rfl (by first | exact congrArg some f7 | simp [f7])).trans rfl) ?_
                        go_simp
                        exact ⟨upd u 94 (.int .i64 num), (by first | rfl | (simp [upd, f7])), ⟨hX.bel, fun h => hX.s0 h, fun h => hX.s1 h, fun h => hX.s2 h, fun h => hX.s3 h, fun h => hX.s4 h, fun h => hX.s5 h, fun h => hX.s6 h, fun h => hX.s7 h, fun _ => rfl, fun h => hX.s9 h, fun h => hX.s10 h, fun h => hX.s11 h, fun h => hX.s12 h, fun h => hX.s13 h, fun h => hX.s14 h, fun h => hX.s15 h, fun h => hX.s16 h, fun h => hX.s17 h, fun h => hX.s18 h, fun h => hX.s19 h, fun h => hX.s20 h, fun h => hX.s21 h, fun h => hX.s22 h, fun h => hX.s23 h⟩⟩
                      · have d7 : D 7 = true := hn 7 (needs_rn (by kernel_rfl))
                        have f7 := hX.s7 d7
                        refine wpOp_wantN rfl ((wanted_rn (k := 7) (b := false) (c := false) (s := 93) rfl rfl (by first | exact congrArg some f7 | simp [f7])).trans rfl) ?_
                        go_simp
                        exact ⟨upd u 95 (.slice (some ⟨tg, 0, none⟩) (64 * K) xc), (by first | rfl | (simp [upd, f7])), ⟨hX.bel, fun h => hX.s0 h, fun h => hX.s1 h, fun h => hX.s2 h, fun h => hX.s3 h, fun h => hX.s4 h, fun h => hX.s5 h, fun h => hX.s6 h, fun h => hX.s7 h, fun h => hX.s8 h, fun _ => rfl, fun h => hX.s10 h, fun h => hX.s11 h, fun h => hX.s12 h, fun h => hX.s13 h, fun h => hX.s14 h, fun h => hX.s15 h, fun h => hX.s16 h, fun h => hX.s17 h, fun h => hX.s18 h, fun h => hX.s19 h, fun h => hX.s20 h, fun h => hX.s21 h, fun h => hX.s22 h, fun h => hX.s23 h⟩⟩
                      · have d7 : D 7 = true := hn 7 (needs_rn (by kernel_rfl))
                        have f7 := hX.s7 d7
                        have d8 : D 8 = true := hn 8 (needs_rn (by kernel_rfl))
                        have f8 := hX.s8 d8
                        have d9 : D 9 = true := hn 9 (needs_rn (by kernel_rfl))
                        have f9 := hX.s9 d9
                        refine wpOp_wantN rfl ((wanted_rn (k := 7) (b := false) (c := false) (s := 93) rfl rfl (by first | exact congrArg some f7 | simp [f7])).trans rfl) ?_
                        go_simp
                        go_at_call 91
                        refine (HMX.out w hX.bel).mono ?_
                        rintro e w3 ⟨x, rfl, hx, hb3⟩
                        have hx := Sl.of_owns hx
                        have hX := hX.grow hb3
                        exact ⟨upd u 96 (x), (by first | rfl | (simp [upd, f7, f8, f9])), ⟨hX.bel, fun h => hX.s0 h, fun h => hX.s1 h, fun h => hX.s2 h, fun h => hX.s3 h, fun h => hX.s4 h, fun h => hX.s5 h, fun h => hX.s6 h, fun h => hX.s7 h, fun h => hX.s8 h, fun h => hX.s9 h, fun _ => hx, fun h => hX.s11 h, fun h => hX.s12 h, fun h => hX.s13 h, fun h => hX.s14 h, fun h => hX.s15 h, fun h => hX.s16 h, fun h => hX.s17 h, fun h => hX.s18 h, fun h => hX.s19 h, fun h => hX.s20 h, fun h => hX.s21 h, fun h => hX.s22 h, fun h => hX.s23 h⟩⟩
                      · have d7 : D 7 = true := hn 7 (needs_rn (by kernel_rfl))
                        have f7 := hX.s7 d7
                        have d10 : D 10 = true := hn 10 (needs_rn (by kernel_rfl))
                        have f10 := hX.s10 d10
                        have hcv := f10.conv
                        refine wpOp_wantN rfl ((wanted_rn (k := 7) (b := false) (c := false) (s := 93) rfl rfl (by first | exact congrArg some f7 | simp [f7])).trans rfl) ?_
                        go_simp
                        exact ⟨upd u 97 (.string (strOfNums (padUp (markQ num (FT.length / 64) (sumI FT))))), (by first | rfl | (simp [upd, f7])), ⟨hX.bel, fun h => hX.s0 h, fun h => hX.s1 h, fun h => hX.s2 h, fun h => hX.s3 h, fun h => hX.s4 h, fun h => hX.s5 h, fun h => hX.s6 h, fun h => hX.s7 h, fun h => hX.s8 h, fun h => hX.s9 h, fun h => hX.s10 h, fun _ => rfl, fun h => hX.s12 h, fun h => hX.s13 h, fun h => hX.s14 h, fun h => hX.s15 h, fun h => hX.s16 h, fun h => hX.s17 h, fun h => hX.s18 h, fun h => hX.s19 h, fun h => hX.s20 h, fun h => hX.s21 h, fun h => hX.s22 h, fun h => hX.s23 h⟩⟩
                      · have d7 : D 7 = true := hn 7 (needs_rn (by kernel_rfl))
                        have f7 := hX.s7 d7
                        refine wpOp_wantN rfl ((wanted_rn (k := 7) (b := false) (c := false) (s := 93) rfl rfl (by first | exact congrArg some f7 | simp [f7])).trans rfl) ?_
                        go_simp
                        exact ⟨upd u 98 (.pointer (some ⟨y, 0, none⟩)), (by first | rfl | (simp [upd, f7])), ⟨hX.bel, fun h => hX.s0 h, fun h => hX.s1 h, fun h => hX.s2 h, fun h => hX.s3 h, fun h => hX.s4 h, fun h => hX.s5 h, fun h => hX.s6 h, fun h => hX.s7 h, fun h => hX.s8 h, fun h => hX.s9 h, fun h => hX.s10 h, fun h => hX.s11 h, fun _ => rfl, fun h => hX.s13 h, fun h => hX.s14 h, fun h => hX.s15 h, fun h => hX.s16 h, fun h => hX.s17 h, fun h => hX.s18 h, fun h => hX.s19 h, fun h => hX.s20 h, fun h => hX.s21 h, fun h => hX.s22 h, fun h => hX.s23 h⟩⟩
                      · have d7 : D 7 = true := hn 7 (needs_rn (by kernel_rfl))
                        have f7 := hX.s7 d7
                        have d12 : D 12 = true := hn 12 (needs_rn (by kernel_rfl))
                        have f12 := hX.s12 d12
                        refine wpOp_wantN rfl ((wanted_rn (k := 7) (b := false) (c := false) (s := 93) rfl rfl (by first | exact congrArg some f7 | simp [f7])).trans rfl) ?_
                        go_simp
                        exact ⟨upd u 99 (.pointer (some ⟨y, 0, none⟩)), (by first | rfl | (simp [upd, f7, f12])), ⟨hX.bel, fun h => hX.s0 h, fun h => hX.s1 h, fun h => hX.s2 h, fun h => hX.s3 h, fun h => hX.s4 h, fun h => hX.s5 h, fun h => hX.s6 h, fun h => hX.s7 h, fun h => hX.s8 h, fun h => hX.s9 h, fun h => hX.s10 h, fun h => hX.s11 h, fun h => hX.s12 h, fun _ => rfl, fun h => hX.s14 h, fun h => hX.s15 h, fun h => hX.s16 h, fun h => hX.s17 h, fun h => hX.s18 h, fun h => hX.s19 h, fun h => hX.s20 h, fun h => hX.s21 h, fun h => hX.s22 h, fun h => hX.s23 h⟩⟩
                      · have d7 : D 7 = true := hn 7 (needs_rn (by kernel_rfl))
                        have f7 := hX.s7 d7
                        have d13 : D 13 = true := hn 13 (needs_rn (by kernel_rfl))
                        have f13 := hX.s13 d13
                        refine wpOp_wantN rfl ((wanted_rn (k := 7) (b := false) (c := false) (s := 93) rfl rfl (by first | exact congrArg some f7 | simp [f7])).trans rfl) ?_
                        go_simp
                        exact ⟨upd u 100 (.pointer (some ⟨y, 0, none⟩)), (by first | rfl | (simp [upd, f7, f13])), ⟨hX.bel, fun h => hX.s0 h, fun h => hX.s1 h, fun h => hX.s2 h, fun h => hX.s3 h, fun h => hX.s4 h, fun h => hX.s5 h, fun h => hX.s6 h, fun h => hX.s7 h, fun h => hX.s8 h, fun h => hX.s9 h, fun h => hX.s10 h, fun h => hX.s11 h, fun h => hX.s12 h, fun h => hX.s13 h, fun _ => rfl, fun h => hX.s15 h, fun h => hX.s16 h, fun h => hX.s17 h, fun h => hX.s18 h, fun h => hX.s19 h, fun h => hX.s20 h, fun h => hX.s21 h, fun h => hX.s22 h, fun h => hX.s23 h⟩⟩
                      · have d7 : D 7 = true := hn 7 (needs_rn (by kernel_rfl))
                        have f7 := hX.s7 d7
                        have d14 : D 14 = true := hn 14 (needs_rn (by kernel_rfl))
                        have f14 := hX.s14 d14
                        have cy := (hX.bel.cell (p := ⟨y, 0, none⟩) HCY.out.2).trans HCY.out.1
                        refine wpOp_wantN rfl ((wanted_rn (k := 7) (b := false) (c := false) (s := 93) rfl rfl (by first | exact congrArg some f7 | simp [f7])).trans rfl) ?_
                        go_simp
                        exact ⟨upd u 101 (.slice (some ⟨gl, 0, none⟩) n cl), (by first | rfl | (simp [upd, f7, f14])), ⟨hX.bel, fun h => hX.s0 h, fun h => hX.s1 h, fun h => hX.s2 h, fun h => hX.s3 h, fun h => hX.s4 h, fun h => hX.s5 h, fun h => hX.s6 h, fun h => hX.s7 h, fun h => hX.s8 h, fun h => hX.s9 h, fun h => hX.s10 h, fun h => hX.s11 h, fun h => hX.s12 h, fun h => hX.s13 h, fun h => hX.s14 h, fun _ => rfl, fun h => hX.s16 h, fun h => hX.s17 h, fun h => hX.s18 h, fun h => hX.s19 h, fun h => hX.s20 h, fun h => hX.s21 h, fun h => hX.s22 h, fun h => hX.s23 h⟩⟩
                      · have d7 : D 7 = true := hn 7 (needs_rn (by kernel_rfl))
                        have f7 := hX.s7 d7
                        refine wpOp_wantN rfl ((wanted_rn (k := 7) (b := false) (c := false) (s := 93) rfl rfl (by first | exact congrArg some f7 | simp [f7])).trans rfl) ?_
                        go_simp
                        exact ⟨upd u 102 (.int .i64 at_), (by first | rfl | (simp [upd, f7])), ⟨hX.bel, fun h => hX.s0 h, fun h => hX.s1 h, fun h => hX.s2 h, fun h => hX.s3 h, fun h => hX.s4 h, fun h => hX.s5 h, fun h => hX.s6 h, fun h => hX.s7 h, fun h => hX.s8 h, fun h => hX.s9 h, fun h => hX.s10 h, fun h => hX.s11 h, fun h => hX.s12 h, fun h => hX.s13 h, fun h => hX.s14 h, fun h => hX.s15 h, fun _ => rfl, fun h => hX.s17 h, fun h => hX.s18 h, fun h => hX.s19 h, fun h => hX.s20 h, fun h => hX.s21 h, fun h => hX.s22 h, fun h => hX.s23 h⟩⟩
                      · have d7 : D 7 = true := hn 7 (needs_rn (by kernel_rfl))
                        have f7 := hX.s7 d7
                        refine wpOp_wantN rfl ((wanted_rn (k := 7) (b := false) (c := false) (s := 93) rfl rfl (by first | exact congrArg some f7 | simp [f7])).trans rfl) ?_
                        go_simp
                        exact ⟨upd u 103 (.int .i64 K), (by first | rfl | (simp [upd, f7])), ⟨hX.bel, fun h => hX.s0 h, fun h => hX.s1 h, fun h => hX.s2 h, fun h => hX.s3 h, fun h => hX.s4 h, fun h => hX.s5 h, fun h => hX.s6 h, fun h => hX.s7 h, fun h => hX.s8 h, fun h => hX.s9 h, fun h => hX.s10 h, fun h => hX.s11 h, fun h => hX.s12 h, fun h => hX.s13 h, fun h => hX.s14 h, fun h => hX.s15 h, fun h => hX.s16 h, fun _ => rfl, fun h => hX.s18 h, fun h => hX.s19 h, fun h => hX.s20 h, fun h => hX.s21 h, fun h => hX.s22 h, fun h => hX.s23 h⟩⟩
                      · have d7 : D 7 = true := hn 7 (needs_rn (by kernel_rfl))
                        have f7 := hX.s7 d7
                        have d16 : D 16 = true := hn 16 (needs_rn (by kernel_rfl))
                        have f16 := hX.s16 d16
                        have d17 : D 17 = true := hn 17 (needs_rn (by kernel_rfl))
                        have f17 := hX.s17 d17
                        have hwk := HWK.out
                        refine wpOp_wantN rfl ((wanted_rn (k := 7) (b := false) (c := false) (s := 93) rfl rfl (by first | exact congrArg some f7 | simp [f7])).trans rfl) ?_
                        go_simp
                        exact ⟨upd u 104 (.int .i64 ((at_ : Int) + (K : Int))), (by first | rfl | (simp [upd, f7, f16, f17])), ⟨hX.bel, fun h => hX.s0 h, fun h => hX.s1 h, fun h => hX.s2 h, fun h => hX.s3 h, fun h => hX.s4 h, fun h => hX.s5 h, fun h => hX.s6 h, fun h => hX.s7 h, fun h => hX.s8 h, fun h => hX.s9 h, fun h => hX.s10 h, fun h => hX.s11 h, fun h => hX.s12 h, fun h => hX.s13 h, fun h => hX.s14 h, fun h => hX.s15 h, fun h => hX.s16 h, fun h => hX.s17 h, fun _ => rfl, fun h => hX.s19 h, fun h => hX.s20 h, fun h => hX.s21 h, fun h => hX.s22 h, fun h => hX.s23 h⟩⟩
                      · have d7 : D 7 = true := hn 7 (needs_rn (by kernel_rfl))
                        have f7 := hX.s7 d7
                        have d15 : D 15 = true := hn 15 (needs_rn (by kernel_rfl))
                        have f15 := hX.s15 d15
                        have d18 : D 18 = true := hn 18 (needs_rn (by kernel_rfl))
                        have f18 := hX.s18 d18
                        have hlk := HLK.out
                        refine wpOp_wantN rfl ((wanted_rn (k := 7) (b := false) (c := false) (s := 93) rfl rfl (by first | exact congrArg some f7 | simp [f7])).trans rfl) ?_
                        go_simp
                        exact ⟨upd u 105 (.pointer (some ⟨gl, at_ + K, none⟩)), (by first | rfl | (simp [upd, f7, f15, f18])), ⟨hX.bel, fun h => hX.s0 h, fun h => hX.s1 h, fun h => hX.s2 h, fun h => hX.s3 h, fun h => hX.s4 h, fun h => hX.s5 h, fun h => hX.s6 h, fun h => hX.s7 h, fun h => hX.s8 h, fun h => hX.s9 h, fun h => hX.s10 h, fun h => hX.s11 h, fun h => hX.s12 h, fun h => hX.s13 h, fun h => hX.s14 h, fun h => hX.s15 h, fun h => hX.s16 h, fun h => hX.s17 h, fun h => hX.s18 h, fun _ => rfl, fun h => hX.s20 h, fun h => hX.s21 h, fun h => hX.s22 h, fun h => hX.s23 h⟩⟩
                      · have d7 : D 7 = true := hn 7 (needs_rn (by kernel_rfl))
                        have f7 := hX.s7 d7
                        have d19 : D 19 = true := hn 19 (needs_rn (by kernel_rfl))
                        have f19 := hX.s19 d19
                        have cs := (hX.bel.cell (p := ⟨gl, at_ + K, none⟩) HCS.out.2).trans HCS.out.1
                        refine wpOp_wantN rfl ((wanted_rn (k := 7) (b := false) (c := false) (s := 93) rfl rfl (by first | exact congrArg some f7 | simp [f7])).trans rfl) ?_
                        go_simp
                        exact ⟨upd u 106 (.slice a9 n9 c9), (by first | rfl | (simp [upd, f7, f19])), ⟨hX.bel, fun h => hX.s0 h, fun h => hX.s1 h, fun h => hX.s2 h, fun h => hX.s3 h, fun h => hX.s4 h, fun h => hX.s5 h, fun h => hX.s6 h, fun h => hX.s7 h, fun h => hX.s8 h, fun h => hX.s9 h, fun h => hX.s10 h, fun h => hX.s11 h, fun h => hX.s12 h, fun h => hX.s13 h, fun h => hX.s14 h, fun h => hX.s15 h, fun h => hX.s16 h, fun h => hX.s17 h, fun h => hX.s18 h, fun h => hX.s19 h, fun _ => rfl, fun h => hX.s21 h, fun h => hX.s22 h, fun h => hX.s23 h⟩⟩
                      · have d7 : D 7 = true := hn 7 (needs_rn (by kernel_rfl))
                        have f7 := hX.s7 d7
                        have d20 : D 20 = true := hn 20 (needs_rn (by kernel_rfl))
                        have f20 := hX.s20 d20
                        have hcv := (HSS.out.below hX.bel (Nat.le_refl _)).conv
                        refine wpOp_wantN rfl ((wanted_rn (k := 7) (b := false) (c := false) (s := 93) rfl rfl (by first | exact congrArg some f7 | simp [f7])).trans rfl) ?_
                        go_simp
                        exact ⟨upd u 107 (.string (strOfNums PK)), (by first | rfl | (simp [upd, f7, f20])), ⟨hX.bel, fun h => hX.s0 h, fun h => hX.s1 h, fun h => hX.s2 h, fun h => hX.s3 h, fun h => hX.s4 h, fun h => hX.s5 h, fun h => hX.s6 h, fun h => hX.s7 h, fun h => hX.s8 h, fun h => hX.s9 h, fun h => hX.s10 h, fun h => hX.s11 h, fun h => hX.s12 h, fun h => hX.s13 h, fun h => hX.s14 h, fun h => hX.s15 h, fun h => hX.s16 h, fun h => hX.s17 h, fun h => hX.s18 h, fun h => hX.s19 h, fun h => hX.s20 h, fun _ => rfl, fun h => hX.s22 h, fun h => hX.s23 h⟩⟩
                      · have d7 : D 7 = true := hn 7 (needs_rn (by kernel_rfl))
                        have f7 := hX.s7 d7
                        have d11 : D 11 = true := hn 11 (needs_rn (by kernel_rfl))
                        have f11 := hX.s11 d11
                        have d21 : D 21 = true := hn 21 (needs_rn (by kernel_rfl))
                        have f21 := hX.s21 d21
                        have hse := HSE2.out
                        refine wpOp_wantN rfl ((wanted_rn (k := 7) (b := false) (c := false) (s := 93) rfl rfl (by first | exact congrArg some f7 | simp [f7])).trans rfl) ?_
                        go_simp
                        exact ⟨upd u 108 (.bool false), (by first | rfl | (simp [upd, f7, f11, f21])), ⟨hX.bel, fun h => hX.s0 h, fun h => hX.s1 h, fun h => hX.s2 h, fun h => hX.s3 h, fun h => hX.s4 h, fun h => hX.s5 h, fun h => hX.s6 h, fun h => hX.s7 h, fun h => hX.s8 h, fun h => hX.s9 h, fun h => hX.s10 h, fun h => hX.s11 h, fun h => hX.s12 h, fun h => hX.s13 h, fun h => hX.s14 h, fun h => hX.s15 h, fun h => hX.s16 h, fun h => hX.s17 h, fun h => hX.s18 h, fun h => hX.s19 h, fun h => hX.s20 h, fun h => hX.s21 h, fun _ => rfl, fun h => hX.s23 h⟩⟩
                      · have d7 : D 7 = true := hn 7 (needs_rn (by kernel_rfl))
                        have f7 := hX.s7 d7
                        have d22 : D 22 = true := hn 22 (needs_rn (by kernel_rfl))
                        have f22 := hX.s22 d22
                        refine wpOp_plain rfl rfl ?_
                        go_simp
                        exact ⟨upd u 109 (.bool false), (by first | rfl | (simp [upd, f7, f22])), ⟨hX.bel, fun h => hX.s0 h, fun h => hX.s1 h, fun h => hX.s2 h, fun h => hX.s3 h, fun h => hX.s4 h, fun h => hX.s5 h, fun h => hX.s6 h, fun h => hX.s7 h, fun h => hX.s8 h, fun h => hX.s9 h, fun h => hX.s10 h, fun h => hX.s11 h, fun h => hX.s12 h, fun h => hX.s13 h, fun h => hX.s14 h, fun h => hX.s15 h, fun h => hX.s16 h, fun h => hX.s17 h, fun h => hX.s18 h, fun h => hX.s19 h, fun h => hX.s20 h, fun h => hX.s21 h, fun h => hX.s22 h, fun _ => rfl⟩⟩
                    case fin =>
                      intro D a' w7 hI hall
                      obtain ⟨u, rfl, hX⟩ := hI
                      have h9 := hX.s23 (hall 23 (by decide))
                      have HB7 := Lib.hid (below_trans2 HB6.out hX.bel)
                      have HO7 := Lib.hid (ownsRow_below HO6.out hX.bel (Nat.le_refl _))
                      have HHX := Lib.hid hX
                      clear hX hall
                      dsimp only [NxBAct]
                      rw [h9]
                      clear h9
                      have hwk1 : IntKind.i64.wrap ((at_ : Int) + (K : Int)) = (at_ : Int) + (K : Int) := HWK.out
                      have hwk2 : IntKind.i64.wrap ((at_ : Int) + (K : Int) + 1) = (at_ : Int) + (K : Int) + 1 := by rw [IntKind.wrap_i64]; omega
                      go_wp2
                      refine bodyPost_ret (results_tmp3 rfl _ _ _) rfl ?_
                      refine ⟨_, _, _, _, _, rfl, ⟨fun _ => ⟨K + 1, by omega, by rw [HBDE.out, HNI.out, HLL.out], ?_⟩, fun e => (by cases e)⟩, HB7.out⟩
                      rw [HBDE.out]
                      exact ownsRow_low HO7.out (Nat.le_trans HBR.out.size (Nat.le_refl _))
                  · have hBq2 : ¬ padUp (markQ num (((img.drop at_).take K).flatten.length / 64) (sumI ((img.drop at_).take K).flatten)) = img.getD (at_ + K) [] := by rw [← HPK.out]; exact hBq
                    have HMB := Lib.hid (show IsB (padUp (markQ num (((img.drop at_).take K).flatten.length / 64) (sumI ((img.drop at_).take K).flatten))) from (IsB.append alB_isB (IsB.append (numI_isB _) (IsB.append (fourI_isB _) (sumI_isB _)))).append (fun x hx => by obtain ⟨_, rfl⟩ := List.mem_replicate.1 hx; omega))
                    have HSE2 := Lib.hid (str_ne HMB.out HPB.out hBq2)
                    have HNO := Lib.hid (show nextI (img.drop at_) num = none from by unfold nextI; rw [if_neg (fun hk => hBq (HOK.out.1 hk).2)])
                    clear hA hBq hBq2
                    generalize hBD : bodyI (img.drop at_) = BD at *
                    generalize hFT : ((img.drop at_).take K).flatten = FT at *
                    generalize hPK : img.getD (at_ + K) [] = PK at *
                    have HBDE := Lib.hid hBD
                    clear hBD hFT hPK
                    refine wp_region_inv2 (NxBInv y gl n cl at_ K num (.slice (some ⟨tg, 0, none⟩) (64 * K) xc) (.slice v6a v6n v6c) (.slice a9 n9 c9) BD FT PK (undef) (undef) (undef) (.slice none 0 0) (.int .i64 0) (.bool false) (.int .i64 (N : Int)) (u12) (.int .i64 (at_ : Int)) (.pointer (some ⟨y, 0, none⟩)) (.pointer (some ⟨y, 0, none⟩)) (.pointer (some ⟨y, 0, none⟩)) (.slice (some ⟨gl, 0, none⟩) n cl) (.int .i64 (n : Int)) (.bool false) (.bool false) (.pointer (some ⟨y, 0, none⟩)) (.pointer (some ⟨y, 0, none⟩)) (.pointer (some ⟨y, 0, none⟩)) (.slice (some ⟨gl, 0, none⟩) n cl) (.int .i64 (at_ : Int)) (.pointer (some ⟨gl, at_, none⟩)) (.slice (some ⟨ub, 0, none⟩) 64 uc) (.slice (some ⟨ub, 0, none⟩) 8 uc) (.int .i64 nw) (.int .i64 num) (.bool false) (.bool false) (.pointer (some ⟨y, 0, none⟩)) (.pointer (some ⟨y, 0, none⟩)) (.pointer (some ⟨y, 0, none⟩)) (.slice (some ⟨gl, 0, none⟩) n cl) (.int .i64 (at_ : Int)) (.pointer (some ⟨gl, at_, none⟩)) (.slice (some ⟨ub, 0, none⟩) 64 uc) (.slice (some ⟨ub, 8, none⟩) 4 (uc - 8)) (.int .i64 (N : Int)) (.int .i64 (N : Int)) (.int .i64 (12 + (N : Int))) (.int .i64 (12 + (N : Int) + 63)) (.int .i64 (K : Int)) (.int .i64 (N : Int)) (.bool (decide ((N : Int) < 1))) (.bool (decide ((N : Int) < 1))) (.int .i64 (N : Int)) (.bool (decide (4000 < (N : Int)))) (.bool (decide ((N : Int) < 1) || decide (4000 < (N : Int)))) (.bool (decide ((N : Int) < 1) || decide (4000 < (N : Int)))) (.int .i64 (at_ : Int)) (.int .i64 (K : Int)) (.int .i64 ((at_ : Int) + (K : Int))) (.pointer (some ⟨y, 0, none⟩)) (.pointer (some ⟨y, 0, none⟩)) (.pointer (some ⟨y, 0, none⟩)) (.slice (some ⟨gl, 0, none⟩) n cl) (.int .i64 (n : Int)) (.bool (decide ((n : Int) ≤ (at_ : Int) + (K : Int)))) (.bool (decide ((N : Int) < 1) || decide (4000 < (N : Int)) || decide ((n : Int) ≤ (at_ : Int) + (K : Int)))) (.int .i64 (K : Int)) (.int .i64 (K : Int)) (.bool false) (u67) (u68) (u69) (u70) (u71) (u72) (u73) (u74) (u75) (u76) (u77) (u78) (u79) (.slice (some ⟨wr.heap.size, 0, none⟩) 0 0) (.slice (some ⟨tg, 0, none⟩) (64 * K) xc) (.int .i64 (N : Int)) (.int .i64 (12 + (N : Int))) (.slice (some ⟨tg, 12, none⟩) N (xc - 12)) (.slice v6a v6n v6c) (undef) (undef) (undef) (undef) (undef) true w6) (by kernel_rfl) (by kernel_rfl) ?start ?step ?fin
                    case start => exact ⟨fun _ => undef, rfl, ⟨(Below.refl _ _).drew, (fun q => by cases q), (fun q => by cases q), (fun q => by cases q), (fun q => by cases q), (fun q => by cases q), (fun q => by cases q), (fun q => by cases q), (fun q => by cases q), (fun q => by cases q), (fun q => by cases q), (fun q => by cases q), (fun q => by cases q), (fun q => by cases q), (fun q => by cases q), (fun q => by cases q), (fun q => by cases q), (fun q => by cases q), (fun q => by cases q), (fun q => by cases q), (fun q => by cases q), (fun q => by cases q), (fun q => by cases q), (fun q => by cases q), (fun q => by cases q)⟩⟩
                    case step =>
                      intro D a w i hi hI hD hcl hn
                      obtain ⟨u, rfl, hX⟩ := hI
                      have hi' : i < 24 := hi
                      clear hi
                      rcases (show i = 0 ∨ i = 1 ∨ i = 2 ∨ i = 3 ∨ i = 4 ∨ i = 5 ∨ i = 6 ∨ i = 7 ∨ i = 8 ∨ i = 9 ∨ i = 10 ∨ i = 11 ∨ i = 12 ∨ i = 13 ∨ i = 14 ∨ i = 15 ∨ i = 16 ∨ i = 17 ∨ i = 18 ∨ i = 19 ∨ i = 20 ∨ i = 21 ∨ i = 22 ∨ i = 23 from by omega) with rfl | rfl | rfl | rfl | rfl | rfl | rfl | rfl | rfl | rfl | rfl | rfl | rfl | rfl | rfl | rfl | rfl | rfl | rfl | rfl | rfl | rfl | rfl | rfl
                      · refine wpOp_plain rfl rfl ?_
                        go_simp
                        exact ⟨upd u 86 (.int .i64 num), rfl, ⟨hX.bel, fun _ => rfl, fun h => hX.s1 h, fun h => hX.s2 h, fun h => hX.s3 h, fun h => hX.s4 h, fun h => hX.s5 h, fun h => hX.s6 h, fun h => hX.s7 h, fun h => hX.s8 h, fun h => hX.s9 h, fun h => hX.s10 h, fun h => hX.s11 h, fun h => hX.s12 h, fun h => hX.s13 h, fun h => hX.s14 h, fun h => hX.s15 h, fun h => hX.s16 h, fun h => hX.s17 h, fun h => hX.s18 h, fun h => hX.s19 h, fun h => hX.s20 h, fun h => hX.s21 h, fun h => hX.s22 h, fun h => hX.s23 h⟩⟩
                      · refine wpOp_plain rfl rfl ?_
                        go_simp
                        exact ⟨upd u 87 (.slice v6a v6n v6c), rfl, ⟨hX.bel, fun h => hX.s0 h, fun _ => rfl, fun h => hX.s2 h, fun h => hX.s3 h, fun h => hX.s4 h, fun h => hX.s5 h, fun h => hX.s6 h, fun h => hX.s7 h, fun h => hX.s8 h, fun h => hX.s9 h, fun h => hX.s10 h, fun h => hX.s11 h, fun h => hX.s12 h, fun h => hX.s13 h, fun h => hX.s14 h, fun h => hX.s15 h, fun h => hX.s16 h, fun h => hX.s17 h, fun h => hX.s18 h, fun h => hX.s19 h, fun h => hX.s20 h, fun h => hX.s21 h, fun h => hX.s22 h, fun h => hX.s23 h⟩⟩
                      · have d0 : D 0 = true := hn 0 (needs_rn (by kernel_rfl))
                        have f0 := hX.s0 d0
                        have d1 : D 1 = true := hn 1 (needs_rn (by kernel_rfl))
                        have f1 := hX.s1 d1
                        refine wpOp_plain rfl rfl ?_
                        go_simp
                        go_at_call 90
                        refine (HTX.out w hX.bel).mono ?_
                        rintro e w3 ⟨x, rfl, hx, hb3⟩
                        have hx := Sl.of_owns hx
                        have hX := hX.grow hb3
                        exact ⟨upd u 88 (x), by simp [upd, f0, f1], ⟨hX.bel, fun h => hX.s0 h, fun h => hX.s1 h, fun _ => hx, fun h => hX.s3 h, fun h => hX.s4 h, fun h => hX.s5 h, fun h => hX.s6 h, fun h => hX.s7 h, fun h => hX.s8 h, fun h => hX.s9 h, fun h => hX.s10 h, fun h => hX.s11 h, fun h => hX.s12 h, fun h => hX.s13 h, fun h => hX.s14 h, fun h => hX.s15 h, fun h => hX.s16 h, fun h => hX.s17 h, fun h => hX.s18 h, fun h => hX.s19 h, fun h => hX.s20 h, fun h => hX.s21 h, fun h => hX.s22 h, fun h => hX.s23 h⟩⟩
                      · have d2 : D 2 = true := hn 2 (needs_rn (by kernel_rfl))
                        have f2 := hX.s2 d2
                        have hcv := f2.conv
                        refine wpOp_plain rfl rfl ?_
                        go_simp
                        exact ⟨upd u 89 (.string (strOfNums (padUp (headT num BD)))), rfl, ⟨hX.bel, fun h => hX.s0 h, fun h => hX.s1 h, fun h => hX.s2 h, fun _ => rfl, fun h => hX.s4 h, fun h => hX.s5 h, fun h => hX.s6 h, fun h => hX.s7 h, fun h => hX.s8 h, fun h => hX.s9 h, fun h => hX.s10 h, fun h => hX.s11 h, fun h => hX.s12 h, fun h => hX.s13 h, fun h => hX.s14 h, fun h => hX.s15 h, fun h => hX.s16 h, fun h => hX.s17 h, fun h => hX.s18 h, fun h => hX.s19 h, fun h => hX.s20 h, fun h => hX.s21 h, fun h => hX.s22 h, fun h => hX.s23 h⟩⟩
                      · refine wpOp_plain rfl rfl ?_
                        go_simp
                        exact ⟨upd u 90 (.slice (some ⟨tg, 0, none⟩) (64 * K) xc), rfl, ⟨hX.bel, fun h => hX.s0 h, fun h => hX.s1 h, fun h => hX.s2 h, fun h => hX.s3 h, fun _ => rfl, fun h => hX.s5 h, fun h => hX.s6 h, fun h => hX.s7 h, fun h => hX.s8 h, fun h => hX.s9 h, fun h => hX.s10 h, fun h => hX.s11 h, fun h => hX.s12 h, fun h => hX.s13 h, fun h => hX.s14 h, fun h => hX.s15 h, fun h => hX.s16 h, fun h => hX.s17 h, fun h => hX.s18 h, fun h => hX.s19 h, fun h => hX.s20 h, fun h => hX.s21 h, fun h => hX.s22 h, fun h => hX.s23 h⟩⟩
                      · have d4 : D 4 = true := hn 4 (needs_rn (by kernel_rfl))
                        have f4 := hX.s4 d4
                        have hcv := (HT6.out.below hX.bel (Nat.le_refl _)).conv
                        refine wpOp_plain rfl rfl ?_
                        go_simp
                        exact ⟨upd u 91 (.string (strOfNums FT)), by simp [upd, f4], ⟨hX.bel, fun h => hX.s0 h, fun h => hX.s1 h, fun h => hX.s2 h, fun h => hX.s3 h, fun h => hX.s4 h, fun _ => rfl, fun h => hX.s6 h, fun h => hX.s7 h, fun h => hX.s8 h, fun h => hX.s9 h, fun h => hX.s10 h, fun h => hX.s11 h, fun h => hX.s12 h, fun h => hX.s13 h, fun h => hX.s14 h, fun h => hX.s15 h, fun h => hX.s16 h, fun h => hX.s17 h, fun h => hX.s18 h, fun h => hX.s19 h, fun h => hX.s20 h, fun h => hX.s21 h, fun h => hX.s22 h, fun h => hX.s23 h⟩⟩
                      · have d3 : D 3 = true := hn 3 (needs_rn (by kernel_rfl))
                        have f3 := hX.s3 d3
                        have d5 : D 5 = true := hn 5 (needs_rn (by kernel_rfl))
                        have f5 := hX.s5 d5
                        have hse := HSE.out
                        refine wpOp_plain rfl rfl ?_
                        go_simp
                        exact ⟨upd u 92 (.bool false), by simp [upd, f3, f5], ⟨hX.bel, fun h => hX.s0 h, fun h => hX.s1 h, fun h => hX.s2 h, fun h => hX.s3 h, fun h => hX.s4 h, fun h => hX.s5 h, fun _ => rfl, fun h => hX.s7 h, fun h => hX.s8 h, fun h => hX.s9 h, fun h => hX.s10 h, fun h => hX.s11 h, fun h => hX.s12 h, fun h => hX.s13 h, fun h => hX.s14 h, fun h => hX.s15 h, fun h => hX.s16 h, fun h => hX.s17 h, fun h => hX.s18 h, fun h => hX.s19 h, fun h => hX.s20 h, fun h => hX.s21 h, fun h => hX.s22 h, fun h => hX.s23 h⟩⟩
                      · have d6 : D 6 = true := hn 6 (needs_rn (by kernel_rfl))
                        have f6 := hX.s6 d6
                        refine wpOp_plain rfl rfl ?_
                        go_simp
                        exact ⟨upd u 93 (.bool false), by simp [upd, f6], ⟨hX.bel, fun h => hX.s0 h, fun h => hX.s1 h, fun h => hX.s2 h, fun h => hX.s3 h, fun h => hX.s4 h, fun h => hX.s5 h, fun h => hX.s6 h, fun _ => rfl, fun h => hX.s8 h, fun h => hX.s9 h, fun h => hX.s10 h, fun h => hX.s11 h, fun h => hX.s12 h, fun h => hX.s13 h, fun h => hX.s14 h, fun h => hX.s15 h, fun h => hX.s16 h, fun h => hX.s17 h, fun h => hX.s18 h, fun h => hX.s19 h, fun h => hX.s20 h, fun h => hX.s21 h, fun h => hX.s22 h, fun h => hX.s23 h⟩⟩
                      · have d7 : D 7 = true := hn 7 (needs_rn (by kernel_rfl))
                        have f7 := hX.s7 d7
                        refine wpOp_wantN rfl ((wanted_rn (k := 7) (b := false) (c := false) (s := 93) rfl rfl (by first | exact congrArg some f7 | simp [f7])).trans rfl) ?_
                        go_simp
                        exact ⟨upd u 94 (.int .i64 num), (by first | rfl | (simp [upd, f7])), ⟨hX.bel, fun h => hX.s0 h, fun h => hX.s1 h, fun h => hX.s2 h, fun h => hX.s3 h, fun h => hX.s4 h, fun h => hX.s5 h, fun h => hX.s6 h, fun h => hX.s7 h, fun _ => rfl, fun h => hX.s9 h, fun h => hX.s10 h, fun h => hX.s11 h, fun h => hX.s12 h, fun h => hX.s13 h, fun h => hX.s14 h, fun h => hX.s15 h, fun h => hX.s16 h, fun h => hX.s17 h, fun h => hX.s18 h, fun h => hX.s19 h, fun h => hX.s20 h, fun h => hX.s21 h, fun h => hX.s22 h, fun h => hX.s23 h⟩⟩
                      · have d7 : D 7 = true := hn 7 (needs_rn (by kernel_rfl))
                        have f7 := hX.s7 d7
                        refine wpOp_wantN rfl ((wanted_rn (k := 7) (b := false) (c := false) (s := 93) rfl rfl (by first | exact congrArg some f7 | simp [f7])).trans rfl) ?_
                        go_simp
                        exact ⟨upd u 95 (.slice (some ⟨tg, 0, none⟩) (64 * K) xc), (by first | rfl | (simp [upd, f7])), ⟨hX.bel, fun h => hX.s0 h, fun h => hX.s1 h, fun h => hX.s2 h, fun h => hX.s3 h, fun h => hX.s4 h, fun h => hX.s5 h, fun h => hX.s6 h, fun h => hX.s7 h, fun h => hX.s8 h, fun _ => rfl, fun h => hX.s10 h, fun h => hX.s11 h, fun h => hX.s12 h, fun h => hX.s13 h, fun h => hX.s14 h, fun h => hX.s15 h, fun h => hX.s16 h, fun h => hX.s17 h, fun h => hX.s18 h, fun h => hX.s19 h, fun h => hX.s20 h, fun h => hX.s21 h, fun h => hX.s22 h, fun h => hX.s23 h⟩⟩
                      · have d7 : D 7 = true := hn 7 (needs_rn (by kernel_rfl))
                        have f7 := hX.s7 d7
                        have d8 : D 8 = true := hn 8 (needs_rn (by kernel_rfl))
                        have f8 := hX.s8 d8
                        have d9 : D 9 = true := hn 9 (needs_rn (by kernel_rfl))
                        have f9 := hX.s9 d9
                        refine wpOp_wantN rfl ((wanted_rn (k := 7) (b := false) (c := false) (s := 93) rfl rfl (by first | exact congrArg some f7 | simp [f7])).trans rfl) ?_
                        go_simp
                        go_at_call 91
                        refine (HMX.out w hX.bel).mono ?_
                        rintro e w3 ⟨x, rfl, hx, hb3⟩
                        have hx := Sl.of_owns hx
                        have hX := hX.grow hb3
                        exact ⟨upd u 96 (x), (by first | rfl | (simp [upd, f7, f8, f9])), ⟨hX.bel, fun h => hX.s0 h, fun h => hX.s1 h, fun h => hX.s2 h, fun h => hX.s3 h, fun h => hX.s4 h, fun h => hX.s5 h, fun h => hX.s6 h, fun h => hX.s7 h, fun h => hX.s8 h, fun h => hX.s9 h, fun _ => hx, fun h => hX.s11 h, fun h => hX.s12 h, fun h => hX.s13 h, fun h => hX.s14 h, fun h => hX.s15 h, fun h => hX.s16 h, fun h => hX.s17 h, fun h => hX.s18 h, fun h => hX.s19 h, fun h => hX.s20 h, fun h => hX.s21 h, fun h => hX.s22 h, fun h => hX.s23 h⟩⟩
                      · have d7 : D 7 = true := hn 7 (needs_rn (by kernel_rfl))
                        have f7 := hX.s7 d7
                        have d10 : D 10 = true := hn 10 (needs_rn (by kernel_rfl))
                        have f10 := hX.s10 d10
                        have hcv := f10.conv
                        refine wpOp_wantN rfl ((wanted_rn (k := 7) (b := false) (c := false) (s := 93) rfl rfl (by first | exact congrArg some f7 | simp [f7])).trans rfl) ?_
                        go_simp
                        exact ⟨upd u 97 (.string (strOfNums (padUp (markQ num (FT.length / 64) (sumI FT))))), (by first | rfl | (simp [upd, f7])), ⟨hX.bel, fun h => hX.s0 h, fun h => hX.s1 h, fun h => hX.s2 h, fun h => hX.s3 h, fun h => hX.s4 h, fun h => hX.s5 h, fun h => hX.s6 h, fun h => hX.s7 h, fun h => hX.s8 h, fun h => hX.s9 h, fun h => hX.s10 h, fun _ => rfl, fun h => hX.s12 h, fun h => hX.s13 h, fun h => hX.s14 h, fun h => hX.s15 h, fun h => hX.s16 h, fun h => hX.s17 h, fun h => hX.s18 h, fun h => hX.s19 h, fun h => hX.s20 h, fun h => hX.s21 h, fun h => hX.s22 h, fun h => hX.s23 h⟩⟩
                      · have d7 : D 7 = true := hn 7 (needs_rn (by kernel_rfl))
                        have f7 := hX.s7 d7
                        refine wpOp_wantN rfl ((wanted_rn (k := 7) (b := false) (c := false) (s := 93) rfl rfl (by first | exact congrArg some f7 | simp [f7])).trans rfl) ?_
                        go_simp
                        exact ⟨upd u 98 (.pointer (some ⟨y, 0, none⟩)), (by first | rfl | (simp [upd, f7])), ⟨hX.bel, fun h => hX.s0 h, fun h => hX.s1 h, fun h => hX.s2 h, fun h => hX.s3 h, fun h => hX.s4 h, fun h => hX.s5 h, fun h => hX.s6 h, fun h => hX.s7 h, fun h => hX.s8 h, fun h => hX.s9 h, fun h => hX.s10 h, fun h => hX.s11 h, fun _ => rfl, fun h => hX.s13 h, fun h => hX.s14 h, fun h => hX.s15 h, fun h => hX.s16 h, fun h => hX.s17 h, fun h => hX.s18 h, fun h => hX.s19 h, fun h => hX.s20 h, fun h => hX.s21 h, fun h => hX.s22 h, fun h => hX.s23 h⟩⟩
                      · have d7 : D 7 = true := hn 7 (needs_rn (by kernel_rfl))
                        have f7 := hX.s7 d7
                        have d12 : D 12 = true := hn 12 (needs_rn (by kernel_rfl))
                        have f12 := hX.s12 d12
                        refine wpOp_wantN rfl ((wanted_rn (k := 7) (b := false) (c := false) (s := 93) rfl rfl (by first | exact congrArg some f7 | simp [f7])).trans rfl) ?_
                        go_simp
                        exact ⟨upd u 99 (.pointer (some ⟨y, 0, none⟩)), (by first | rfl | (simp [upd, f7, f12])), ⟨hX.bel, fun h => hX.s0 h, fun h => hX.s1 h, fun h => hX.s2 h, fun h => hX.s3 h, fun h => hX.s4 h, fun h => hX.s5 h, fun h => hX.s6 h, fun h => hX.s7 h, fun h => hX.s8 h, fun h => hX.s9 h, fun h => hX.s10 h, fun h => hX.s11 h, fun h => hX.s12 h, fun _ => rfl, fun h => hX.s14 h, fun h => hX.s15 h, fun h => hX.s16 h, fun h => hX.s17 h, fun h => hX.s18 h, fun h => hX.s19 h, fun h => hX.s20 h, fun h => hX.s21 h, fun h => hX.s22 h, fun h => hX.s23 h⟩⟩
                      · have d7 : D 7 = true := hn 7 (needs_rn (by kernel_rfl))
                        have f7 := hX.s7 d7
                        have d13 : D 13 = true := hn 13 (needs_rn (by kernel_rfl))
                        have f13 := hX.s13 d13
                        refine wpOp_wantN rfl ((wanted_rn (k := 7) (b := false) (c := false) (s := 93) rfl rfl (by first | exact congrArg some f7 | simp [f7])).trans rfl) ?_
                        go_simp
                        exact ⟨upd u 100 (.pointer (some ⟨y, 0, none⟩)), (by first | rfl | (simp [upd, f7, f13])), ⟨hX.bel, fun h => hX.s0 h, fun h => hX.s1 h, fun h => hX.s2 h, fun h => hX.s3 h, fun h => hX.s4 h, fun h => hX.s5 h, fun h => hX.s6 h, fun h => hX.s7 h, fun h => hX.s8 h, fun h => hX.s9 h, fun h => hX.s10 h, fun h => hX.s11 h, fun h => hX.s12 h, fun h => hX.s13 h, fun _ => rfl, fun h => hX.s15 h, fun h => hX.s16 h, fun h => hX.s17 h, fun h => hX.s18 h, fun h => hX.s19 h, fun h => hX.s20 h, fun h => hX.s21 h, fun h => hX.s22 h, fun h => hX.s23 h⟩⟩
                      · have d7 : D 7 = true := hn 7 (needs_rn (by kernel_rfl))
                        have f7 := hX.s7 d7
                        have d14 : D 14 = true := hn 14 (needs_rn (by kernel_rfl))
                        have f14 := hX.s14 d14
                        have cy := (hX.bel.cell (p := ⟨y, 0, none⟩) HCY.out.2).trans HCY.out.1
                        refine wpOp_wantN rfl ((wanted_rn (k := 7) (b := false) (c := false) (s := 93) rfl rfl (by first | exact congrArg some f7 | simp [f7])).trans rfl) ?_
                        go_simp
                        exact ⟨upd u 101 (.slice (some ⟨gl, 0, none⟩) n cl), (by first | rfl | (simp [upd, f7, f14])), ⟨hX.bel, fun h => hX.s0 h, fun h => hX.s1 h, fun h => hX.s2 h, fun h => hX.s3 h, fun h => hX.s4 h, fun h => hX.s5 h, fun h => hX.s6 h, fun h => hX.s7 h, fun h => hX.s8 h, fun h => hX.s9 h, fun h => hX.s10 h, fun h => hX.s11 h, fun h => hX.s12 h, fun h => hX.s13 h, fun h => hX.s14 h, fun _ => rfl, fun h => hX.s16 h, fun h => hX.s17 h, fun h => hX.s18 h, fun h => hX.s19 h, fun h => hX.s20 h, fun h => hX.s21 h, fun h => hX.s22 h, fun h => hX.s23 h⟩⟩
                      · have d7 : D 7 = true := hn 7 (needs_rn (by kernel_rfl))
                        have f7 := hX.s7 d7
                        refine wpOp_wantN rfl ((wanted_rn (k := 7) (b := false) (c := false) (s := 93) rfl rfl (by first | exact congrArg some f7 | simp [f7])).trans rfl) ?_
                        go_simp
                        exact ⟨upd u 102 (.int .i64 at_), (by first | rfl | (simp [upd, f7])), ⟨hX.bel, fun h => hX.s0 h, fun h => hX.s1 h, fun h => hX.s2 h, fun h => hX.s3 h, fun h => hX.s4 h, fun h => hX.s5 h, fun h => hX.s6 h, fun h => hX.s7 h, fun h => hX.s8 h, fun h => hX.s9 h, fun h => hX.s10 h, fun h => hX.s11 h, fun h => hX.s12 h, fun h => hX.s13 h, fun h => hX.s14 h, fun h => hX.s15 h, fun _ => rfl, fun h => hX.s17 h, fun h => hX.s18 h, fun h => hX.s19 h, fun h => hX.s20 h, fun h => hX.s21 h, fun h => hX.s22 h, fun h => hX.s23 h⟩⟩
                      · have d7 : D 7 = true := hn 7 (needs_rn (by kernel_rfl))
                        have f7 := hX.s7 d7
                        refine wpOp_wantN rfl ((wanted_rn (k := 7) (b := false) (c := false) (s := 93) rfl rfl (by first | exact congrArg some f7 | simp [f7])).trans rfl) ?_
                        go_simp
                        exact ⟨upd u 103 (.int .i64 K), (by first | rfl | (simp [upd, f7])), ⟨hX.bel, fun h => hX.s0 h, fun h => hX.s1 h, fun h => hX.s2 h, fun h => hX.s3 h, fun h => hX.s4 h, fun h => hX.s5 h, fun h => hX.s6 h, fun h => hX.s7 h, fun h => hX.s8 h, fun h => hX.s9 h, fun h => hX.s10 h, fun h => hX.s11 h, fun h => hX.s12 h, fun h => hX.s13 h, fun h => hX.s14 h, fun h => hX.s15 h, fun h => hX.s16 h, fun _ => rfl, fun h => hX.s18 h, fun h => hX.s19 h, fun h => hX.s20 h, fun h => hX.s21 h, fun h => hX.s22 h, fun h => hX.s23 h⟩⟩
                      · have d7 : D 7 = true := hn 7 (needs_rn (by kernel_rfl))
                        have f7 := hX.s7 d7
                        have d16 : D 16 = true := hn 16 (needs_rn (by kernel_rfl))
                        have f16 := hX.s16 d16
                        have d17 : D 17 = true := hn 17 (needs_rn (by kernel_rfl))
                        have f17 := hX.s17 d17
                        have hwk := HWK.out
                        refine wpOp_wantN rfl ((wanted_rn (k := 7) (b := false) (c := false) (s := 93) rfl rfl (by first | exact congrArg some f7 | simp [f7])).trans rfl) ?_
                        go_simp
                        exact ⟨upd u 104 (.int .i64 ((at_ : Int) + (K : Int))), (by first | rfl | (simp [upd, f7, f16, f17])), ⟨hX.bel, fun h => hX.s0 h, fun h => hX.s1 h, fun h => hX.s2 h, fun h => hX.s3 h, fun h => hX.s4 h, fun h => hX.s5 h, fun h => hX.s6 h, fun h => hX.s7 h, fun h => hX.s8 h, fun h => hX.s9 h, fun h => hX.s10 h, fun h => hX.s11 h, fun h => hX.s12 h, fun h => hX.s13 h, fun h => hX.s14 h, fun h => hX.s15 h, fun h => hX.s16 h, fun h => hX.s17 h, fun _ => rfl, fun h => hX.s19 h, fun h => hX.s20 h, fun h => hX.s21 h, fun h => hX.s22 h, fun h => hX.s23 h⟩⟩
                      · have d7 : D 7 = true := hn 7 (needs_rn (by kernel_rfl))
                        have f7 := hX.s7 d7
                        have d15 : D 15 = true := hn 15 (needs_rn (by kernel_rfl))
                        have f15 := hX.s15 d15
                        have d18 : D 18 = true := hn 18 (needs_rn (by kernel_rfl))
                        have f18 := hX.s18 d18
                        have hlk := HLK.out
                        refine wpOp_wantN rfl ((wanted_rn (k := 7) (b := false) (c := false) (s := 93) rfl rfl (by first | exact congrArg some f7 | simp [f7])).trans rfl) ?_
                        go_simp
                        exact ⟨upd u 105 (.pointer (some ⟨gl, at_ + K, none⟩)), (by first | rfl | (simp [upd, f7, f15, f18])), ⟨hX.bel, fun h => hX.s0 h, fun h => hX.s1 h, fun h => hX.s2 h, fun h => hX.s3 h, fun h => hX.s4 h, fun h => hX.s5 h, fun h => hX.s6 h, fun h => hX.s7 h, fun h => hX.s8 h, fun h => hX.s9 h, fun h => hX.s10 h, fun h => hX.s11 h, fun h => hX.s12 h, fun h => hX.s13 h, fun h => hX.s14 h, fun h => hX.s15 h, fun h => hX.s16 h, fun h => hX.s17 h, fun h => hX.s18 h, fun _ => rfl, fun h => hX.s20 h, fun h => hX.s21 h, fun h => hX.s22 h, fun h => hX.s23 h⟩⟩
                      · have d7 : D 7 = true := hn 7 (needs_rn (by kernel_rfl))
                        have f7 := hX.s7 d7
                        have d19 : D 19 = true := hn 19 (needs_rn (by kernel_rfl))
                        have f19 := hX.s19 d19
                        have cs := (hX.bel.cell (p := ⟨gl, at_ + K, none⟩) HCS.out.2).trans HCS.out.1
                        refine wpOp_wantN rfl ((wanted_rn (k := 7) (b := false) (c := false) (s := 93) rfl rfl (by first | exact congrArg some f7 | simp [f7])).trans rfl) ?_
                        go_simp
                        exact ⟨upd u 106 (.slice a9 n9 c9), (by first | rfl | (simp [upd, f7, f19])), ⟨hX.bel, fun h => hX.s0 h, fun h => hX.s1 h, fun h => hX.s2 h, fun h => hX.s3 h, fun h => hX.s4 h, fun h => hX.s5 h, fun h => hX.s6 h, fun h => hX.s7 h, fun h => hX.s8 h, fun h => hX.s9 h, fun h => hX.s10 h, fun h => hX.s11 h, fun h => hX.s12 h, fun h => hX.s13 h, fun h => hX.s14 h, fun h => hX.s15 h, fun h => hX.s16 h, fun h => hX.s17 h, fun h => hX.s18 h, fun h => hX.s19 h, fun _ => rfl, fun h => hX.s21 h, fun h => hX.s22 h, fun h => hX.s23 h⟩⟩
                      · have d7 : D 7 = true := hn 7 (needs_rn (by kernel_rfl))
                        have f7 := hX.s7 d7
                        have d20 : D 20 = true := hn 20 (needs_rn (by kernel_rfl))
                        have f20 := hX.s20 d20
                        have hcv := (HSS.out.below hX.bel (Nat.le_refl _)).conv
                        refine wpOp_wantN rfl ((wanted_rn (k := 7) (b := false) (c := false) (s := 93) rfl rfl (by first | exact congrArg some f7 | simp [f7])).trans rfl) ?_
                        go_simp
                        exact ⟨upd u 107 (.string (strOfNums PK)), (by first | rfl | (simp [upd, f7, f20])), ⟨hX.bel, fun h => hX.s0 h, fun h => hX.s1 h, fun h => hX.s2 h, fun h => hX.s3 h, fun h => hX.s4 h, fun h => hX.s5 h, fun h => hX.s6 h, fun h => hX.s7 h, fun h => hX.s8 h, fun h => hX.s9 h, fun h => hX.s10 h, fun h => hX.s11 h, fun h => hX.s12 h, fun h => hX.s13 h, fun h => hX.s14 h, fun h => hX.s15 h, fun h => hX.s16 h, fun h => hX.s17 h, fun h => hX.s18 h, fun h => hX.s19 h, fun h => hX.s20 h, fun _ => rfl, fun h => hX.s22 h, fun h => hX.s23 h⟩⟩
                      · have d7 : D 7 = true := hn 7 (needs_rn (by kernel_rfl))
                        have f7 := hX.s7 d7
                        have d11 : D 11 = true := hn 11 (needs_rn (by kernel_rfl))
                        have f11 := hX.s11 d11
                        have d21 : D 21 = true := hn 21 (needs_rn (by kernel_rfl))
                        have f21 := hX.s21 d21
                        have hse := HSE2.out
                        refine wpOp_wantN rfl ((wanted_rn (k := 7) (b := false) (c := false) (s := 93) rfl rfl (by first | exact congrArg some f7 | simp [f7])).trans rfl) ?_
                        go_simp
                        exact ⟨upd u 108 (.bool true), (by first | rfl | (simp [upd, f7, f11, f21])), ⟨hX.bel, fun h => hX.s0 h, fun h => hX.s1 h, fun h => hX.s2 h, fun h => hX.s3 h, fun h => hX.s4 h, fun h => hX.s5 h, fun h => hX.s6 h, fun h => hX.s7 h, fun h => hX.s8 h, fun h => hX.s9 h, fun h => hX.s10 h, fun h => hX.s11 h, fun h => hX.s12 h, fun h => hX.s13 h, fun h => hX.s14 h, fun h => hX.s15 h, fun h => hX.s16 h, fun h => hX.s17 h, fun h => hX.s18 h, fun h => hX.s19 h, fun h => hX.s20 h, fun h => hX.s21 h, fun _ => rfl, fun h => hX.s23 h⟩⟩
                      · have d7 : D 7 = true := hn 7 (needs_rn (by kernel_rfl))
                        have f7 := hX.s7 d7
                        have d22 : D 22 = true := hn 22 (needs_rn (by kernel_rfl))
                        have f22 := hX.s22 d22
                        refine wpOp_plain rfl rfl ?_
                        go_simp
                        exact ⟨upd u 109 (.bool true), (by first | rfl | (simp [upd, f7, f22])), ⟨hX.bel, fun h => hX.s0 h, fun h => hX.s1 h, fun h => hX.s2 h, fun h => hX.s3 h, fun h => hX.s4 h, fun h => hX.s5 h, fun h => hX.s6 h, fun h => hX.s7 h, fun h => hX.s8 h, fun h => hX.s9 h, fun h => hX.s10 h, fun h => hX.s11 h, fun h => hX.s12 h, fun h => hX.s13 h, fun h => hX.s14 h, fun h => hX.s15 h, fun h => hX.s16 h, fun h => hX.s17 h, fun h => hX.s18 h, fun h => hX.s19 h, fun h => hX.s20 h, fun h => hX.s21 h, fun h => hX.s22 h, fun _ => rfl⟩⟩
                    case fin =>
                      intro D a' w7 hI hall
                      obtain ⟨u, rfl, hX⟩ := hI
                      have h9 := hX.s23 (hall 23 (by decide))
                      have HB7 := Lib.hid (below_trans2 HB6.out hX.bel)
                      have HO7 := Lib.hid (ownsRow_below HO6.out hX.bel (Nat.le_refl _))
                      have HHX := Lib.hid hX
                      clear hX hall
                      dsimp only [NxBAct]
                      rw [h9]
                      clear h9
                      go_wp2
                      refine bodyPost_ret (results_tmp3 rfl _ _ _) rfl ?_
                      exact ⟨_, _, _, _, _, rfl, ⟨fun e => (by cases e), fun _ => HNO.out⟩, HB7.out⟩
                · have HSE := Lib.hid (str_ne HHB.out HFTB.out hA)
                  have HNO := Lib.hid (show nextI (img.drop at_) num = none from by unfold nextI; rw [if_neg (fun hk => hA (HOK.out.1 hk).1)])
                  clear hA
                  generalize hBD : bodyI (img.drop at_) = BD at *
                  generalize hFT : ((img.drop at_).take K).flatten = FT at *
                  generalize hPK : img.getD (at_ + K) [] = PK at *
                  have HBDE := Lib.hid hBD
                  clear hBD hFT hPK
                  refine wp_region_inv2 (NxAInv y gl n cl at_ K num (.slice (some ⟨tg, 0, none⟩) (64 * K) xc) (.slice v6a v6n v6c) (.slice a9 n9 c9) BD FT PK (undef) (undef) (undef) (.slice none 0 0) (.int .i64 0) (.bool false) (.int .i64 (N : Int)) (u12) (.int .i64 (at_ : Int)) (.pointer (some ⟨y, 0, none⟩)) (.pointer (some ⟨y, 0, none⟩)) (.pointer (some ⟨y, 0, none⟩)) (.slice (some ⟨gl, 0, none⟩) n cl) (.int .i64 (n : Int)) (.bool false) (.bool false) (.pointer (some ⟨y, 0, none⟩)) (.pointer (some ⟨y, 0, none⟩)) (.pointer (some ⟨y, 0, none⟩)) (.slice (some ⟨gl, 0, none⟩) n cl) (.int .i64 (at_ : Int)) (.pointer (some ⟨gl, at_, none⟩)) (.slice (some ⟨ub, 0, none⟩) 64 uc) (.slice (some ⟨ub, 0, none⟩) 8 uc) (.int .i64 nw) (.int .i64 num) (.bool false) (.bool false) (.pointer (some ⟨y, 0, none⟩)) (.pointer (some ⟨y, 0, none⟩)) (.pointer (some ⟨y, 0, none⟩)) (.slice (some ⟨gl, 0, none⟩) n cl) (.int .i64 (at_ : Int)) (.pointer (some ⟨gl, at_, none⟩)) (.slice (some ⟨ub, 0, none⟩) 64 uc) (.slice (some ⟨ub, 8, none⟩) 4 (uc - 8)) (.int .i64 (N : Int)) (.int .i64 (N : Int)) (.int .i64 (12 + (N : Int))) (.int .i64 (12 + (N : Int) + 63)) (.int .i64 (K : Int)) (.int .i64 (N : Int)) (.bool (decide ((N : Int) < 1))) (.bool (decide ((N : Int) < 1))) (.int .i64 (N : Int)) (.bool (decide (4000 < (N : Int)))) (.bool (decide ((N : Int) < 1) || decide (4000 < (N : Int)))) (.bool (decide ((N : Int) < 1) || decide (4000 < (N : Int)))) (.int .i64 (at_ : Int)) (.int .i64 (K : Int)) (.int .i64 ((at_ : Int) + (K : Int))) (.pointer (some ⟨y, 0, none⟩)) (.pointer (some ⟨y, 0, none⟩)) (.pointer (some ⟨y, 0, none⟩)) (.slice (some ⟨gl, 0, none⟩) n cl) (.int .i64 (n : Int)) (.bool (decide ((n : Int) ≤ (at_ : Int) + (K : Int)))) (.bool (decide ((N : Int) < 1) || decide (4000 < (N : Int)) || decide ((n : Int) ≤ (at_ : Int) + (K : Int)))) (.int .i64 (K : Int)) (.int .i64 (K : Int)) (.bool false) (u67) (u68) (u69) (u70) (u71) (u72) (u73) (u74) (u75) (u76) (u77) (u78) (u79) (.slice (some ⟨wr.heap.size, 0, none⟩) 0 0) (.slice (some ⟨tg, 0, none⟩) (64 * K) xc) (.int .i64 (N : Int)) (.int .i64 (12 + (N : Int))) (.slice (some ⟨tg, 12, none⟩) N (xc - 12)) (.slice v6a v6n v6c) (undef) (undef) (undef) (undef) (undef) w6) (by kernel_rfl) (by kernel_rfl) ?start ?step ?fin
                  case start => exact ⟨fun _ => undef, rfl, ⟨(Below.refl _ _).drew, (fun q => by cases q), (fun q => by cases q), (fun q => by cases q), (fun q => by cases q), (fun q => by cases q), (fun q => by cases q), (fun q => by cases q), (fun q => by cases q), (fun q => by cases q), (fun q => by cases q), (fun q => by cases q), (fun q => by cases q), (fun q => by cases q), (fun q => by cases q), (fun q => by cases q), (fun q => by cases q), (fun q => by cases q), (fun q => by cases q), (fun q => by cases q), (fun q => by cases q), (fun q => by cases q), (fun q => by cases q), (fun q => by cases q), (fun q => by cases q)⟩⟩
                  case step =>
                    intro D a w i hi hI hD hcl hn
                    obtain ⟨u, rfl, hX⟩ := hI
                    have hi' : i < 24 := hi
                    clear hi
                    rcases (show i = 0 ∨ i = 1 ∨ i = 2 ∨ i = 3 ∨ i = 4 ∨ i = 5 ∨ i = 6 ∨ i = 7 ∨ i = 8 ∨ i = 9 ∨ i = 10 ∨ i = 11 ∨ i = 12 ∨ i = 13 ∨ i = 14 ∨ i = 15 ∨ i = 16 ∨ i = 17 ∨ i = 18 ∨ i = 19 ∨ i = 20 ∨ i = 21 ∨ i = 22 ∨ i = 23 from by omega) with rfl | rfl | rfl | rfl | rfl | rfl | rfl | rfl | rfl | rfl | rfl | rfl | rfl | rfl | rfl | rfl | rfl | rfl | rfl | rfl | rfl | rfl | rfl | rfl
                    · refine wpOp_plain rfl rfl ?_
                      go_simp
                      exact ⟨upd u 86 (.int .i64 num), rfl, ⟨hX.bel, fun _ => rfl, fun h => hX.s1 h, fun h => hX.s2 h, fun h => hX.s3 h, fun h => hX.s4 h, fun h => hX.s5 h, fun h => hX.s6 h, fun h => hX.s7 h, fun h => hX.s8 h, fun h => hX.s9 h, fun h => hX.s10 h, fun h => hX.s11 h, fun h => hX.s12 h, fun h => hX.s13 h, fun h => hX.s14 h, fun h => hX.s15 h, fun h => hX.s16 h, fun h => hX.s17 h, fun h => hX.s18 h, fun h => hX.s19 h, fun h => hX.s20 h, fun h => hX.s21 h, fun h => hX.s22 h, fun h => hX.s23 h⟩⟩
                    · refine wpOp_plain rfl rfl ?_
                      go_simp
                      exact ⟨upd u 87 (.slice v6a v6n v6c), rfl, ⟨hX.bel, fun h => hX.s0 h, fun _ => rfl, fun h => hX.s2 h, fun h => hX.s3 h, fun h => hX.s4 h, fun h => hX.s5 h, fun h => hX.s6 h, fun h => hX.s7 h, fun h => hX.s8 h, fun h => hX.s9 h, fun h => hX.s10 h, fun h => hX.s11 h, fun h => hX.s12 h, fun h => hX.s13 h, fun h => hX.s14 h, fun h => hX.s15 h, fun h => hX.s16 h, fun h => hX.s17 h, fun h => hX.s18 h, fun h => hX.s19 h, fun h => hX.s20 h, fun h => hX.s21 h, fun h => hX.s22 h, fun h => hX.s23 h⟩⟩
                    · have d0 : D 0 = true := hn 0 (needs_rn (by kernel_rfl))
                      have f0 := hX.s0 d0
                      have d1 : D 1 = true := hn 1 (needs_rn (by kernel_rfl))
                      have f1 := hX.s1 d1
                      refine wpOp_plain rfl rfl ?_
                      go_simp
                      go_at_call 90
                      refine (HTX.out w hX.bel).mono ?_
                      rintro e w3 ⟨x, rfl, hx, hb3⟩
                      have hx := Sl.of_owns hx
                      have hX := hX.grow hb3
                      exact ⟨upd u 88 (x), by simp [upd, f0, f1], ⟨hX.bel, fun h => hX.s0 h, fun h => hX.s1 h, fun _ => hx, fun h => hX.s3 h, fun h => hX.s4 h, fun h => hX.s5 h, fun h => hX.s6 h, fun h => hX.s7 h, fun h => hX.s8 h, fun h => hX.s9 h, fun h => hX.s10 h, fun h => hX.s11 h, fun h => hX.s12 h, fun h => hX.s13 h, fun h => hX.s14 h, fun h => hX.s15 h, fun h => hX.s16 h, fun h => hX.s17 h, fun h => hX.s18 h, fun h => hX.s19 h, fun h => hX.s20 h, fun h => hX.s21 h, fun h => hX.s22 h, fun h => hX.s23 h⟩⟩
                    · have d2 : D 2 = true := hn 2 (needs_rn (by kernel_rfl))
                      have f2 := hX.s2 d2
                      have hcv := f2.conv
                      refine wpOp_plain rfl rfl ?_
                      go_simp
                      exact ⟨upd u 89 (.string (strOfNums (padUp (headT num BD)))), rfl, ⟨hX.bel, fun h => hX.s0 h, fun h => hX.s1 h, fun h => hX.s2 h, fun _ => rfl, fun h => hX.s4 h, fun h => hX.s5 h, fun h => hX.s6 h, fun h => hX.s7 h, fun h => hX.s8 h, fun h => hX.s9 h, fun h => hX.s10 h, fun h => hX.s11 h, fun h => hX.s12 h, fun h => hX.s13 h, fun h => hX.s14 h, fun h => hX.s15 h, fun h => hX.s16 h, fun h => hX.s17 h, fun h => hX.s18 h, fun h => hX.s19 h, fun h => hX.s20 h, fun h => hX.s21 h, fun h => hX.s22 h, fun h => hX.s23 h⟩⟩
                    · refine wpOp_plain rfl rfl ?_
                      go_simp
                      exact ⟨upd u 90 (.slice (some ⟨tg, 0, none⟩) (64 * K) xc), rfl, ⟨hX.bel, fun h => hX.s0 h, fun h => hX.s1 h, fun h => hX.s2 h, fun h => hX.s3 h, fun _ => rfl, fun h => hX.s5 h, fun h => hX.s6 h, fun h => hX.s7 h, fun h => hX.s8 h, fun h => hX.s9 h, fun h => hX.s10 h, fun h => hX.s11 h, fun h => hX.s12 h, fun h => hX.s13 h, fun h => hX.s14 h, fun h => hX.s15 h, fun h => hX.s16 h, fun h => hX.s17 h, fun h => hX.s18 h, fun h => hX.s19 h, fun h => hX.s20 h, fun h => hX.s21 h, fun h => hX.s22 h, fun h => hX.s23 h⟩⟩
                    · have d4 : D 4 = true := hn 4 (needs_rn (by kernel_rfl))
                      have f4 := hX.s4 d4
                      have hcv := (HT6.out.below hX.bel (Nat.le_refl _)).conv
                      refine wpOp_plain rfl rfl ?_
                      go_simp
                      exact ⟨upd u 91 (.string (strOfNums FT)), by simp [upd, f4], ⟨hX.bel, fun h => hX.s0 h, fun h => hX.s1 h, fun h => hX.s2 h, fun h => hX.s3 h, fun h => hX.s4 h, fun _ => rfl, fun h => hX.s6 h, fun h => hX.s7 h, fun h => hX.s8 h, fun h => hX.s9 h, fun h => hX.s10 h, fun h => hX.s11 h, fun h => hX.s12 h, fun h => hX.s13 h, fun h => hX.s14 h, fun h => hX.s15 h, fun h => hX.s16 h, fun h => hX.s17 h, fun h => hX.s18 h, fun h => hX.s19 h, fun h => hX.s20 h, fun h => hX.s21 h, fun h => hX.s22 h, fun h => hX.s23 h⟩⟩
                    · have d3 : D 3 = true := hn 3 (needs_rn (by kernel_rfl))
                      have f3 := hX.s3 d3
                      have d5 : D 5 = true := hn 5 (needs_rn (by kernel_rfl))
                      have f5 := hX.s5 d5
                      have hse := HSE.out
                      refine wpOp_plain rfl rfl ?_
                      go_simp
                      exact ⟨upd u 92 (.bool true), by simp [upd, f3, f5], ⟨hX.bel, fun h => hX.s0 h, fun h => hX.s1 h, fun h => hX.s2 h, fun h => hX.s3 h, fun h => hX.s4 h, fun h => hX.s5 h, fun _ => rfl, fun h => hX.s7 h, fun h => hX.s8 h, fun h => hX.s9 h, fun h => hX.s10 h, fun h => hX.s11 h, fun h => hX.s12 h, fun h => hX.s13 h, fun h => hX.s14 h, fun h => hX.s15 h, fun h => hX.s16 h, fun h => hX.s17 h, fun h => hX.s18 h, fun h => hX.s19 h, fun h => hX.s20 h, fun h => hX.s21 h, fun h => hX.s22 h, fun h => hX.s23 h⟩⟩
                    · have d6 : D 6 = true := hn 6 (needs_rn (by kernel_rfl))
                      have f6 := hX.s6 d6
                      refine wpOp_plain rfl rfl ?_
                      go_simp
                      exact ⟨upd u 93 (.bool true), by simp [upd, f6], ⟨hX.bel, fun h => hX.s0 h, fun h => hX.s1 h, fun h => hX.s2 h, fun h => hX.s3 h, fun h => hX.s4 h, fun h => hX.s5 h, fun h => hX.s6 h, fun _ => rfl, fun h => hX.s8 h, fun h => hX.s9 h, fun h => hX.s10 h, fun h => hX.s11 h, fun h => hX.s12 h, fun h => hX.s13 h, fun h => hX.s14 h, fun h => hX.s15 h, fun h => hX.s16 h, fun h => hX.s17 h, fun h => hX.s18 h, fun h => hX.s19 h, fun h => hX.s20 h, fun h => hX.s21 h, fun h => hX.s22 h, fun h => hX.s23 h⟩⟩
                    · have d7 : D 7 = true := hn 7 (needs_rn (by kernel_rfl))
                      have f7 := hX.s7 d7
                      refine wpOp_skipN rfl ((wanted_rn (k := 7) (b := false) (c := true) (s := 93) rfl rfl (by first | exact congrArg some f7 | simp [f7])).trans rfl) ?_
                      exact ⟨upd u 94 (undef), (by first | rfl | (simp [upd, f7])), ⟨hX.bel, fun h => hX.s0 h, fun h => hX.s1 h, fun h => hX.s2 h, fun h => hX.s3 h, fun h => hX.s4 h, fun h => hX.s5 h, fun h => hX.s6 h, fun h => hX.s7 h, fun _ => trivial, fun h => hX.s9 h, fun h => hX.s10 h, fun h => hX.s11 h, fun h => hX.s12 h, fun h => hX.s13 h, fun h => hX.s14 h, fun h => hX.s15 h, fun h => hX.s16 h, fun h => hX.s17 h, fun h => hX.s18 h, fun h => hX.s19 h, fun h => hX.s20 h, fun h => hX.s21 h, fun h => hX.s22 h, fun h => hX.s23 h⟩⟩
                    · have d7 : D 7 = true := hn 7 (needs_rn (by kernel_rfl))
                      have f7 := hX.s7 d7
                      refine wpOp_skipN rfl ((wanted_rn (k := 7) (b := false) (c := true) (s := 93) rfl rfl (by first | exact congrArg some f7 | simp [f7])).trans rfl) ?_
                      exact ⟨upd u 95 (undef), (by first | rfl | (simp [upd, f7])), ⟨hX.bel, fun h => hX.s0 h, fun h => hX.s1 h, fun h => hX.s2 h, fun h => hX.s3 h, fun h => hX.s4 h, fun h => hX.s5 h, fun h => hX.s6 h, fun h => hX.s7 h, fun h => hX.s8 h, fun _ => trivial, fun h => hX.s10 h, fun h => hX.s11 h, fun h => hX.s12 h, fun h => hX.s13 h, fun h => hX.s14 h, fun h => hX.s15 h, fun h => hX.s16 h, fun h => hX.s17 h, fun h => hX.s18 h, fun h => hX.s19 h, fun h => hX.s20 h, fun h => hX.s21 h, fun h => hX.s22 h, fun h => hX.s23 h⟩⟩
                    · have d7 : D 7 = true := hn 7 (needs_rn (by kernel_rfl))
                      have f7 := hX.s7 d7
                      refine wpOp_skipN rfl ((wanted_rn (k := 7) (b := false) (c := true) (s := 93) rfl rfl (by first | exact congrArg some f7 | simp [f7])).trans rfl) ?_
                      exact ⟨upd u 96 (undef), (by first | rfl | (simp [upd, f7])), ⟨hX.bel, fun h => hX.s0 h, fun h => hX.s1 h, fun h => hX.s2 h, fun h => hX.s3 h, fun h => hX.s4 h, fun h => hX.s5 h, fun h => hX.s6 h, fun h => hX.s7 h, fun h => hX.s8 h, fun h => hX.s9 h, fun _ => trivial, fun h => hX.s11 h, fun h => hX.s12 h, fun h => hX.s13 h, fun h => hX.s14 h, fun h => hX.s15 h, fun h => hX.s16 h, fun h => hX.s17 h, fun h => hX.s18 h, fun h => hX.s19 h, fun h => hX.s20 h, fun h => hX.s21 h, fun h => hX.s22 h, fun h => hX.s23 h⟩⟩
                    · have d7 : D 7 = true := hn 7 (needs_rn (by kernel_rfl))
                      have f7 := hX.s7 d7
                      refine wpOp_skipN rfl ((wanted_rn (k := 7) (b := false) (c := true) (s := 93) rfl rfl (by first | exact congrArg some f7 | simp [f7])).trans rfl) ?_
                      exact ⟨upd u 97 (undef), (by first | rfl | (simp [upd, f7])), ⟨hX.bel, fun h => hX.s0 h, fun h => hX.s1 h, fun h => hX.s2 h, fun h => hX.s3 h, fun h => hX.s4 h, fun h => hX.s5 h, fun h => hX.s6 h, fun h => hX.s7 h, fun h => hX.s8 h, fun h => hX.s9 h, fun h => hX.s10 h, fun _ => trivial, fun h => hX.s12 h, fun h => hX.s13 h, fun h => hX.s14 h, fun h => hX.s15 h, fun h => hX.s16 h, fun h => hX.s17 h, fun h => hX.s18 h, fun h => hX.s19 h, fun h => hX.s20 h, fun h => hX.s21 h, fun h => hX.s22 h, fun h => hX.s23 h⟩⟩
                    · have d7 : D 7 = true := hn 7 (needs_rn (by kernel_rfl))
                      have f7 := hX.s7 d7
                      refine wpOp_skipN rfl ((wanted_rn (k := 7) (b := false) (c := true) (s := 93) rfl rfl (by first | exact congrArg some f7 | simp [f7])).trans rfl) ?_
                      exact ⟨upd u 98 (undef), (by first | rfl | (simp [upd, f7])), ⟨hX.bel, fun h => hX.s0 h, fun h => hX.s1 h, fun h => hX.s2 h, fun h => hX.s3 h, fun h => hX.s4 h, fun h => hX.s5 h, fun h => hX.s6 h, fun h => hX.s7 h, fun h => hX.s8 h, fun h => hX.s9 h, fun h => hX.s10 h, fun h => hX.s11 h, fun _ => trivial, fun h => hX.s13 h, fun h => hX.s14 h, fun h => hX.s15 h, fun h => hX.s16 h, fun h => hX.s17 h, fun h => hX.s18 h, fun h => hX.s19 h, fun h => hX.s20 h, fun h => hX.s21 h, fun h => hX.s22 h, fun h => hX.s23 h⟩⟩
                    · have d7 : D 7 = true := hn 7 (needs_rn (by kernel_rfl))
                      have f7 := hX.s7 d7
                      refine wpOp_skipN rfl ((wanted_rn (k := 7) (b := false) (c := true) (s := 93) rfl rfl (by first | exact congrArg some f7 | simp [f7])).trans rfl) ?_
                      exact ⟨upd u 99 (undef), (by first | rfl | (simp [upd, f7])), ⟨hX.bel, fun h => hX.s0 h, fun h => hX.s1 h, fun h => hX.s2 h, fun h => hX.s3 h, fun h => hX.s4 h, fun h => hX.s5 h, fun h => hX.s6 h, fun h => hX.s7 h, fun h => hX.s8 h, fun h => hX.s9 h, fun h => hX.s10 h, fun h => hX.s11 h, fun h => hX.s12 h, fun _ => trivial, fun h => hX.s14 h, fun h => hX.s15 h, fun h => hX.s16 h, fun h => hX.s17 h, fun h => hX.s18 h, fun h => hX.s19 h, fun h => hX.s20 h, fun h => hX.s21 h, fun h => hX.s22 h, fun h => hX.s23 h⟩⟩
                    · have d7 : D 7 = true := hn 7 (needs_rn (by kernel_rfl))
                      have f7 := hX.s7 d7
                      refine wpOp_skipN rfl ((wanted_rn (k := 7) (b := false) (c := true) (s := 93) rfl rfl (by first | exact congrArg some f7 | simp [f7])).trans rfl) ?_
                      exact ⟨upd u 100 (undef), (by first | rfl | (simp [upd, f7])), ⟨hX.bel, fun h => hX.s0 h, fun h => hX.s1 h, fun h => hX.s2 h, fun h => hX.s3 h, fun h => hX.s4 h, fun h => hX.s5 h, fun h => hX.s6 h, fun h => hX.s7 h, fun h => hX.s8 h, fun h => hX.s9 h, fun h => hX.s10 h, fun h => hX.s11 h, fun h => hX.s12 h, fun h => hX.s13 h, fun _ => trivial, fun h => hX.s15 h, fun h => hX.s16 h, fun h => hX.s17 h, fun h => hX.s18 h, fun h => hX.s19 h, fun h => hX.s20 h, fun h => hX.s21 h, fun h => hX.s22 h, fun h => hX.s23 h⟩⟩
                    · have d7 : D 7 = true := hn 7 (needs_rn (by kernel_rfl))
                      have f7 := hX.s7 d7
                      refine wpOp_skipN rfl ((wanted_rn (k := 7) (b := false) (c := true) (s := 93) rfl rfl (by first | exact congrArg some f7 | simp [f7])).trans rfl) ?_
                      exact ⟨upd u 101 (undef), (by first | rfl | (simp [upd, f7])), ⟨hX.bel, fun h => hX.s0 h, fun h => hX.s1 h, fun h => hX.s2 h, fun h => hX.s3 h, fun h => hX.s4 h, fun h => hX.s5 h, fun h => hX.s6 h, fun h => hX.s7 h, fun h => hX.s8 h, fun h => hX.s9 h, fun h => hX.s10 h, fun h => hX.s11 h, fun h => hX.s12 h, fun h => hX.s13 h, fun h => hX.s14 h, fun _ => trivial, fun h => hX.s16 h, fun h => hX.s17 h, fun h => hX.s18 h, fun h => hX.s19 h, fun h => hX.s20 h, fun h => hX.s21 h, fun h => hX.s22 h, fun h => hX.s23 h⟩⟩
                    · have d7 : D 7 = true := hn 7 (needs_rn (by kernel_rfl))
                      have f7 := hX.s7 d7
                      refine wpOp_skipN rfl ((wanted_rn (k := 7) (b := false) (c := true) (s := 93) rfl rfl (by first | exact congrArg some f7 | simp [f7])).trans rfl) ?_
                      exact ⟨upd u 102 (undef), (by first | rfl | (simp [upd, f7])), ⟨hX.bel, fun h => hX.s0 h, fun h => hX.s1 h, fun h => hX.s2 h, fun h => hX.s3 h, fun h => hX.s4 h, fun h => hX.s5 h, fun h => hX.s6 h, fun h => hX.s7 h, fun h => hX.s8 h, fun h => hX.s9 h, fun h => hX.s10 h, fun h => hX.s11 h, fun h => hX.s12 h, fun h => hX.s13 h, fun h => hX.s14 h, fun h => hX.s15 h, fun _ => trivial, fun h => hX.s17 h, fun h => hX.s18 h, fun h => hX.s19 h, fun h => hX.s20 h, fun h => hX.s21 h, fun h => hX.s22 h, fun h => hX.s23 h⟩⟩
                    · have d7 : D 7 = true := hn 7 (needs_rn (by kernel_rfl))
                      have f7 := hX.s7 d7
                      refine wpOp_skipN rfl ((wanted_rn (k := 7) (b := false) (c := true) (s := 93) rfl rfl (by first | exact congrArg some f7 | simp [f7])).trans rfl) ?_
                      exact ⟨upd u 103 (undef), (by first | rfl | (simp [upd, f7])), ⟨hX.bel, fun h => hX.s0 h, fun h => hX.s1 h, fun h => hX.s2 h, fun h => hX.s3 h, fun h => hX.s4 h, fun h => hX.s5 h, fun h => hX.s6 h, fun h => hX.s7 h, fun h => hX.s8 h, fun h => hX.s9 h, fun h => hX.s10 h, fun h => hX.s11 h, fun h => hX.s12 h, fun h => hX.s13 h, fun h => hX.s14 h, fun h => hX.s15 h, fun h => hX.s16 h, fun _ => trivial, fun h => hX.s18 h, fun h => hX.s19 h, fun h => hX.s20 h, fun h => hX.s21 h, fun h => hX.s22 h, fun h => hX.s23 h⟩⟩
                    · have d7 : D 7 = true := hn 7 (needs_rn (by kernel_rfl))
                      have f7 := hX.s7 d7
                      refine wpOp_skipN rfl ((wanted_rn (k := 7) (b := false) (c := true) (s := 93) rfl rfl (by first | exact congrArg some f7 | simp [f7])).trans rfl) ?_
                      exact ⟨upd u 104 (undef), (by first | rfl | (simp [upd, f7])), ⟨hX.bel, fun h => hX.s0 h, fun h => hX.s1 h, fun h => hX.s2 h, fun h => hX.s3 h, fun h => hX.s4 h, fun h => hX.s5 h, fun h => hX.s6 h, fun h => hX.s7 h, fun h => hX.s8 h, fun h => hX.s9 h, fun h => hX.s10 h, fun h => hX.s11 h, fun h => hX.s12 h, fun h => hX.s13 h, fun h => hX.s14 h, fun h => hX.s15 h, fun h => hX.s16 h, fun h => hX.s17 h, fun _ => trivial, fun h => hX.s19 h, fun h => hX.s20 h, fun h => hX.s21 h, fun h => hX.s22 h, fun h => hX.s23 h⟩⟩
                    · have d7 : D 7 = true := hn 7 (needs_rn (by kernel_rfl))
                      have f7 := hX.s7 d7
                      refine wpOp_skipN rfl ((wanted_rn (k := 7) (b := false) (c := true) (s := 93) rfl rfl (by first | exact congrArg some f7 | simp [f7])).trans rfl) ?_
                      exact ⟨upd u 105 (undef), (by first | rfl | (simp [upd, f7])), ⟨hX.bel, fun h => hX.s0 h, fun h => hX.s1 h, fun h => hX.s2 h, fun h => hX.s3 h, fun h => hX.s4 h, fun h => hX.s5 h, fun h => hX.s6 h, fun h => hX.s7 h, fun h => hX.s8 h, fun h => hX.s9 h, fun h => hX.s10 h, fun h => hX.s11 h, fun h => hX.s12 h, fun h => hX.s13 h, fun h => hX.s14 h, fun h => hX.s15 h, fun h => hX.s16 h, fun h => hX.s17 h, fun h => hX.s18 h, fun _ => trivial, fun h => hX.s20 h, fun h => hX.s21 h, fun h => hX.s22 h, fun h => hX.s23 h⟩⟩
                    · have d7 : D 7 = true := hn 7 (needs_rn (by kernel_rfl))
                      have f7 := hX.s7 d7
                      refine wpOp_skipN rfl ((wanted_rn (k := 7) (b := false) (c := true) (s := 93) rfl rfl (by first | exact congrArg some f7 | simp [f7])).trans rfl) ?_
                      exact ⟨upd u 106 (undef), (by first | rfl | (simp [upd, f7])), ⟨hX.bel, fun h => hX.s0 h, fun h => hX.s1 h, fun h => hX.s2 h, fun h => hX.s3 h, fun h => hX.s4 h, fun h => hX.s5 h, fun h => hX.s6 h, fun h => hX.s7 h, fun h => hX.s8 h, fun h => hX.s9 h, fun h => hX.s10 h, fun h => hX.s11 h, fun h => hX.s12 h, fun h => hX.s13 h, fun h => hX.s14 h, fun h => hX.s15 h, fun h => hX.s16 h, fun h => hX.s17 h, fun h => hX.s18 h, fun h => hX.s19 h, fun _ => trivial, fun h => hX.s21 h, fun h => hX.s22 h, fun h => hX.s23 h⟩⟩
                    · have d7 : D 7 = true := hn 7 (needs_rn (by kernel_rfl))
                      have f7 := hX.s7 d7
                      refine wpOp_skipN rfl ((wanted_rn (k := 7) (b := false) (c := true) (s := 93) rfl rfl (by first | exact congrArg some f7 | simp [f7])).trans rfl) ?_
                      exact ⟨upd u 107 (undef), (by first | rfl | (simp [upd, f7])), ⟨hX.bel, fun h => hX.s0 h, fun h => hX.s1 h, fun h => hX.s2 h, fun h => hX.s3 h, fun h => hX.s4 h, fun h => hX.s5 h, fun h => hX.s6 h, fun h => hX.s7 h, fun h => hX.s8 h, fun h => hX.s9 h, fun h => hX.s10 h, fun h => hX.s11 h, fun h => hX.s12 h, fun h => hX.s13 h, fun h => hX.s14 h, fun h => hX.s15 h, fun h => hX.s16 h, fun h => hX.s17 h, fun h => hX.s18 h, fun h => hX.s19 h, fun h => hX.s20 h, fun _ => trivial, fun h => hX.s22 h, fun h => hX.s23 h⟩⟩
                    · have d7 : D 7 = true := hn 7 (needs_rn (by kernel_rfl))
                      have f7 := hX.s7 d7
                      refine wpOp_skipN rfl ((wanted_rn (k := 7) (b := false) (c := true) (s := 93) rfl rfl (by first | exact congrArg some f7 | simp [f7])).trans rfl) ?_
                      exact ⟨upd u 108 (undef), (by first | rfl | (simp [upd, f7])), ⟨hX.bel, fun h => hX.s0 h, fun h => hX.s1 h, fun h => hX.s2 h, fun h => hX.s3 h, fun h => hX.s4 h, fun h => hX.s5 h, fun h => hX.s6 h, fun h => hX.s7 h, fun h => hX.s8 h, fun h => hX.s9 h, fun h => hX.s10 h, fun h => hX.s11 h, fun h => hX.s12 h, fun h => hX.s13 h, fun h => hX.s14 h, fun h => hX.s15 h, fun h => hX.s16 h, fun h => hX.s17 h, fun h => hX.s18 h, fun h => hX.s19 h, fun h => hX.s20 h, fun h => hX.s21 h, fun _ => trivial, fun h => hX.s23 h⟩⟩
                    · have d7 : D 7 = true := hn 7 (needs_rn (by kernel_rfl))
                      have f7 := hX.s7 d7
                      refine wpOp_plain rfl rfl ?_
                      go_simp
                      exact ⟨upd u 109 (.bool true), (by first | rfl | (simp [upd, f7])), ⟨hX.bel, fun h => hX.s0 h, fun h => hX.s1 h, fun h => hX.s2 h, fun h => hX.s3 h, fun h => hX.s4 h, fun h => hX.s5 h, fun h => hX.s6 h, fun h => hX.s7 h, fun h => hX.s8 h, fun h => hX.s9 h, fun h => hX.s10 h, fun h => hX.s11 h, fun h => hX.s12 h, fun h => hX.s13 h, fun h => hX.s14 h, fun h => hX.s15 h, fun h => hX.s16 h, fun h => hX.s17 h, fun h => hX.s18 h, fun h => hX.s19 h, fun h => hX.s20 h, fun h => hX.s21 h, fun h => hX.s22 h, fun _ => rfl⟩⟩
                  case fin =>
                    intro D a' w7 hI hall
                    obtain ⟨u, rfl, hX⟩ := hI
                    have h9 := hX.s23 (hall 23 (by decide))
                    have HB7 := Lib.hid (below_trans2 HB6.out hX.bel)
                    have HO7 := Lib.hid (ownsRow_below HO6.out hX.bel (Nat.le_refl _))
                    have HHX := Lib.hid hX
                    clear hX hall
                    dsimp only [NxAAct]
                    rw [h9]
                    clear h9
                    go_wp2
                    refine bodyPost_ret (results_tmp3 rfl _ _ _) rfl ?_
                    exact ⟨_, _, _, _, _, rfl, ⟨fun e => (by cases e), fun _ => HNO.out⟩, HB7.out⟩
          · have hno : ((N : Int) < 1 ∨ (4000 : Int) < N) ∨ (n : Int) ≤ (at_ : Int) + (K : Int) := Or.inr (by omega)
            have HNO := Lib.hid (show ¬ nextFit (img.drop at_) from fun q => by have := q.2.2; rw [HK.out, List.length_drop, HIL.out] at this; omega)
            clear hN3
            go_wp2
            refine bodyPost_ret (results_tmp3 rfl _ _ _) rfl ?_
            exact ⟨_, _, _, _, _, rfl, ⟨fun e => (by cases e), fun _ => nextI_no HNO.out⟩, Below.refl _ _⟩
    · have h8b : (numW (p0.take 8) == num) = false := by rw [beq_eq_false_iff_ne]; exact h8
      have HNO := Lib.hid (show nextI (img.drop at_) num = none from by
        unfold nextI
        rw [if_neg]
        intro hk
        have := HF8.out hk
        rw [this] at h8
        exact h8 (numW_numI num hn0 (by omega)))
      clear h8 HV4
      generalize numW (p0.take 8) = nw at *
      go_enter Tryd.func66, Tryd.ntmps66
      go_wp2_with fail
      refine HV8.out.mono ?_
      rintro e w1 ⟨rfl, rfl⟩
      go_wp2
      refine bodyPost_ret (results_tmp3 rfl _ _ _) rfl ?_
      exact ⟨_, _, _, _, _, rfl, ⟨fun e => (by cases e), fun _ => HNO.out⟩, Below.refl _ _⟩

end Go.Proofs.YtgfkejecigefbaaDoor

namespace Go.Proofs.YtgfkejecigefbaaDoor
open Go.RowKit
set_option linter.unusedVariables false

end Go.Proofs.YtgfkejecigefbaaDoor

namespace Go.Proofs.YtgfkejecigefbaaDoor
open Go.RowKit
set_option linter.unusedVariables false

theorem Sl.noY {w w' : World} {v : Value} {bs : List Int} {y : Nat} (h : Sl w v (bs.map (Value.int .u8))) (ho : Only [y] w w') (hy : ∀ o x, w.cell? ⟨y, o, none⟩ ≠ some (Value.int .u8 x)) : Sl w' v (bs.map (Value.int .u8)) := by
  obtain ⟨a, cap, rfl, h1, h2, h3⟩ := h
  refine ⟨a, cap, rfl, h1, h2, fun hn => ?_⟩
  obtain ⟨b, off, e, hlt, hc⟩ := h3 hn
  refine ⟨b, off, e, Nat.lt_of_lt_of_le hlt ho.size, fun j u hj => ?_⟩
  have q := hc j u hj
  obtain ⟨x, rfl⟩ : ∃ x, u = Value.int .u8 x := by
    rw [List.getElem?_map] at hj
    cases hb : bs[j]? with
    | none => rw [hb] at hj; cases hj
    | some x => rw [hb] at hj; exact ⟨x, (Option.some.inj hj).symm⟩
  have hb : b ≠ y := fun e2 => hy (off + j) x (by rw [← e2]; exact q)
  exact (ho.cell (p := ⟨b, off + j, none⟩) hlt (by simp; exact hb)).trans q
theorem RDev.noU8 {w : World} {y gl gk gw : Nat} {d : DSt} (h : RDev w y gl gk gw d) : ∀ o x, w.cell? ⟨y, o, none⟩ ≠ some (Value.int .u8 x) := by
  obtain ⟨cl, ck, cw, _, _, _, k⟩ := h.blk
  intro o x e
  rw [k.cell o] at e
  match o, e with
  | 0, e => simp at e
  | 1, e => simp at e
  | 2, e => simp at e
  | 3, e => simp at e
  | 4, e => simp at e
  | 5, e => simp at e
  | n + 6, e => simp at e
theorem TRow.set {w : World} {gl : Nat} {xs : List (List Int)} (h : TRow w gl xs) (i : Nat) {u : Value} {bs : List Int} (hu : OB w 0 u bs) (hi : i < xs.length) : TRow (w.setCell ⟨gl, i, none⟩ u) gl (xs.set i bs) := by
  obtain ⟨cur, k, hx⟩ := h
  have ho : Only [gl] w (w.setCell ⟨gl, i, none⟩ u) := Only.setCell _ _ (by simp) _
  have hf : ∀ q ∈ [gl], ∀ c, ¬ Blk w q 5 c := fun q hq c e => by
    obtain rfl : q = gl := by simpa using hq
    exact Blk.ne_ e k (by decide) rfl
  have hil : i < cur.size := by
    obtain ⟨u', hu', _⟩ := hx i xs[i] (List.getElem?_eq_getElem hi)
    exact (Array.getElem?_eq_some_iff.1 hu').1
  refine ⟨cur.setIfInBounds i u, k.set_ i u, fun j b hj => ?_⟩
  by_cases e : i = j
  · subst e
    rw [List.getElem?_set_self hi] at hj
    cases hj
    exact ⟨u, by rw [Array.getElem?_setIfInBounds_self_of_lt hil], hu.only ho hf⟩
  · rw [List.getElem?_set_ne e] at hj
    obtain ⟨u', hu', hb'⟩ := hx j b hj
    exact ⟨u', by rw [Array.getElem?_setIfInBounds_ne e]; exact hu', hb'.only ho hf⟩
theorem BRow.set {w : World} {gw : Nat} {ws : List Bool} (h : BRow w gw ws) (i : Nat) (x : Bool) (hi : i < ws.length) : BRow (w.setCell ⟨gw, i, none⟩ (.bool x)) gw (ws.set i x) := by
  obtain ⟨cur, k, hx⟩ := h
  have hil : i < cur.size := by
    have hu' := hx i ws[i] (List.getElem?_eq_getElem hi)
    exact (Array.getElem?_eq_some_iff.1 hu').1
  refine ⟨cur.setIfInBounds i (.bool x), k.set_ i _, fun j b hj => ?_⟩
  by_cases e : i = j
  · subst e
    rw [List.getElem?_set_self hi] at hj
    cases hj
    exact Array.getElem?_setIfInBounds_self_of_lt hil
  · rw [List.getElem?_set_ne e] at hj
    rw [Array.getElem?_setIfInBounds_ne e]; exact hx j b hj
/-- One sector's parts are turned: the text, and whether it waits. -/
theorem RDev.setNow {w : World} {y gl gk gw : Nat} {d : DSt} (h : RDev w y gl gk gw d) {j : Nat} {s : Sec} (hj : d.l[j]? = some s) {u : Value} {bs : List Int} (hu : OB w 0 u bs) (x : Bool) (hok : ({ now := bs, kept := s.kept, waits := x } : Sec).ok) :
    RDev ((w.setCell ⟨gl, j, none⟩ u).setCell ⟨gw, j, none⟩ (.bool x)) y gl gk gw { d with l := d.l.set j { now := bs, kept := s.kept, waits := x } } := by
  have hjl : j < d.l.length := (List.getElem?_eq_some_iff.1 hj).1
  obtain ⟨cl, ck, cw, h1, h2, h3, k⟩ := h.blk
  obtain ⟨c1, k1⟩ := h.rl.typ
  obtain ⟨c2, k2⟩ := h.rk.typ
  obtain ⟨c3, k3⟩ := h.rw.typ
  have hne := h.ne
  have n1 : y ≠ gl := Blk.ne_ k k1 (by decide)
  have n2 : y ≠ gw := Blk.ne_ k k3 (by decide)
  have n3 : gl ≠ gw := Blk.ne_ k1 k3 (by decide)
  have n4 : gk ≠ gw := Blk.ne_ k2 k3 (by decide)
  have hr1 := h.rl.set j hu (by rw [List.length_map]; exact hjl)
  have hk1 := h.rk.only (Only.setCell [gl] w (p := ⟨gl, j, none⟩) (by simp) u) (fun q hq c e => by
    obtain rfl : q = gl := by simpa using hq
    exact Blk.ne_ e k1 (by decide) rfl) (by simp; exact fun e => hne e.symm)
  have hw1 := h.rw.only (Only.setCell [gl] w (p := ⟨gl, j, none⟩) (by simp) u) (by simp; exact fun e => n3 e.symm)
  have k3' := k3.far (p := ⟨gl, j, none⟩) (fun e => n3 e.symm) u
  have hf : ∀ q ∈ [gw], ∀ c, ¬ Blk (w.setCell ⟨gl, j, none⟩ u) q 5 c := fun q hq c e => by
    obtain rfl : q = gw := by simpa using hq
    exact Blk.ne_ e k3' (by decide) rfl
  have ho2 := Only.setCell [gw] (w.setCell ⟨gl, j, none⟩ u) (p := ⟨gw, j, none⟩) (by simp) (.bool x)
  refine ⟨⟨cl, ck, cw, by rw [List.length_set]; exact h1, by rw [List.length_set]; exact h2, by rw [List.length_set]; exact h3, ?_⟩, ?_, ?_, ?_, hne, by rw [List.length_set]; exact h.pos, h.burns, set_ok h.ok hok⟩
  · rw [List.length_set]
    exact (k.far (p := ⟨gl, j, none⟩) n1 u).far (p := ⟨gw, j, none⟩) n2 (.bool x)
  · rw [List.map_set]; exact hr1.only ho2 hf (by simp; exact n3)
  · rw [List.map_set]
    have e : (d.l.map Sec.kept).set j s.kept = d.l.map Sec.kept := by
      apply List.ext_getElem?; intro m
      by_cases q : j = m
      · subst q; rw [List.getElem?_set_self (by rw [List.length_map]; exact hjl), List.getElem?_map, hj]; rfl
      · rw [List.getElem?_set_ne q]
    show TRow _ gk ((d.l.map Sec.kept).set j s.kept)
    rw [e]; exact hk1.only ho2 hf (by simp; exact n4)
  · rw [List.map_set]; exact hw1.set j x (by rw [List.length_map]; exact hjl)

set_option maxRecDepth 100000 in
set_option maxHeartbeats 2000000 in
theorem rwrite_any (w : World) (y gl gk gw : Nat) (d : DSt) (i : Int) (v : Value) (bs : List Int) (h : RDev w y gl gk gw d) (hB : IsB bs) (hv : Sl w v (bs.map (Value.int .u8))) :
    Calls Tryd.prog 67 #[.pointer (some ⟨y, 0, none⟩), .int .i64 i, v] w fun e w' => e = .returned (.int .i64 (d.wrE i bs)) ∧ RDev w' y gl gk gw (d.wrote i bs) ∧ Only [y, gl, gw] w w' := by
  have HD := Lib.hid h
  have HV := Lib.hid hv
  have HC := Lib.hid (rburn_any w y gl gk gw d h)
  obtain ⟨va, vc, rfl, hvc, hvm⟩ := hv.shape
  rw [List.length_map] at *
  obtain ⟨cl, ck, cw, h1, h2, h3, k⟩ := h.blk
  have c0 : w.cell? ⟨y, 0, none⟩ = some (.slice (some ⟨gl, 0, none⟩) d.l.length cl) := k.cell 0
  clear k h2 h3
  by_cases hx : d.has i = true
  · have hxx : 0 ≤ i ∧ i < d.l.length := by unfold DSt.has at hx; exact of_decide_eq_true hx
    obtain ⟨j, rfl⟩ := Int.eq_ofNat_of_zero_le hxx.1
    have hj : j < d.l.length := by omega
    have hjI : (j : Int) < (d.l.length : Int) := by omega
    by_cases hl : bs.length = 64
    · have hln : ((bs.length : Int) != 64) = false := by rw [hl]; rfl
      by_cases hs : d.stops = true
      · rw [show d.chgE = 70 from if_pos hs] at HC
        have HE := Lib.hid (show d.wrE j bs = 70 ∧ d.wrote j bs = d.chg from ⟨by unfold DSt.wrE; rw [if_pos hx, if_pos hl]; exact if_pos hs, by unfold DSt.wrote; rw [if_pos ⟨hx, hl⟩, if_pos hs]⟩)
        clear h hv hx hl hs hxx h1
        rw [HE.out.1, HE.out.2]
        go_enter Tryd.func67, Tryd.ntmps67
        go_wp2_with fail
        refine HC.out.mono ?_
        rintro e w1 ⟨rfl, hD, hO⟩
        go_wp2
        go_ret
        exact ⟨rfl, hD, hO.mono (by simp)⟩
      · rw [show d.chgE = 0 from if_neg hs] at HC
        have HE := Lib.hid (show d.wrE j bs = 0 ∧ d.wrote j bs = { d.chg with l := d.l.modify j fun s => s.wrote bs } from ⟨by unfold DSt.wrE; rw [if_pos hx, if_pos hl]; exact if_neg hs, by unfold DSt.wrote; rw [if_pos ⟨hx, hl⟩, if_neg hs]; rfl⟩)
        have hg : d.l[j]? = some d.l[j] := List.getElem?_eq_getElem hj
        have HLL := Lib.hid (chg_l d)
        have HL := Lib.hid hl
        generalize d.l[j] = s at *
        have HG := Lib.hid hg
        rw [HE.out.1, HE.out.2]
        clear h hv hx hl hs hxx h1 hg
        go_enter Tryd.func67, Tryd.ntmps67
        go_wp2_with fail
        refine HC.out.mono ?_
        rintro e w1 ⟨rfl, hD, hO⟩
        have hV1 := HV.out.noY hO HD.out.noU8
        obtain ⟨cl, ck, cw, h1, h2, h3, k⟩ := hD.blk
        rw [HLL.out] at k h1 h2 h3
        obtain ⟨c1, k1, r1⟩ := hD.rl
        obtain ⟨c2, k2, r2⟩ := hD.rw
        rw [HLL.out] at r1 r2
        obtain ⟨uo, huo, _⟩ := r1 j s.now (by rw [List.getElem?_map, HG.out]; rfl)
        have huw := r2 j s.waits (by rw [List.getElem?_map, HG.out]; rfl)
        have HUO := Lib.hid huo
        have HUW := Lib.hid huw
        clear r1 r2 huo huw
        have n1 : gl ≠ y := Blk.ne_ k1 k (by decide)
        have n2 : gl ≠ gw := Blk.ne_ k1 k2 (by decide)
        have HN1 := Lib.hid n1
        have HN2 := Lib.hid n2
        clear n1 n2
        have hbE : Below w1.heap.size w1 (w1.alloc (.cells #[] 5)) := (Below.refl _ _).alloc (Nat.le_refl _) _
        have hown0 : (w1.alloc (.cells #[] 5)).ownsRow w1.heap.size 5 1 (.slice (some ⟨w1.heap.size, 0, none⟩) 0 0) 0 [] :=
          World.ownsRow_lit (base := w1.heap.size) (e := 5) (size := 1) w1 #[] 0 (Nat.le_refl _) (by simp [maxLen]) (by simp)
        have hsE := (hV1.below hbE (Nat.le_refl _))
        have q0 : w1.cell? ⟨y, 0, none⟩ = some (.slice (some ⟨gl, 0, none⟩) d.l.length cl) := k.cell 0
        have q2 : w1.cell? ⟨y, 2, none⟩ = some (.slice (some ⟨gw, 0, none⟩) d.l.length cw) := k.cell 2
        have e0 : (w1.alloc (.cells #[] 5)).cell? ⟨y, 0, none⟩ = some (.slice (some ⟨gl, 0, none⟩) d.l.length cl) := (k.alloc _).cell 0
        have e2 : (w1.alloc (.cells #[] 5)).cell? ⟨y, 2, none⟩ = some (.slice (some ⟨gw, 0, none⟩) d.l.length cw) := (k.alloc _).cell 2
        have HDD := Lib.hid hD
        have HO1 := Lib.hid hO
        have HK := Lib.hid k
        have HK1 := Lib.hid k1
        have HK2 := Lib.hid k2
        have HOW := Lib.hid (show (w1.alloc (.cells #[] 5)).drew.ownsRow w1.heap.size 5 1 (.slice (some ⟨w1.heap.size, 0, none⟩) 0 0) 0 [] from hown0)
        have HSE := Lib.hid (show Sl (w1.alloc (.cells #[] 5)).drew _ _ from hsE)
        have HBE := Lib.hid hbE
        clear hD hO hV1 k k1 k2 h1 h2 h3 hown0 hsE hbE
        go_wp2
        go_region_law (refine step_append_bytes rfl (.tmp 39) (.tmp 40) rfl w1.heap.size _ 0 [] rfl HOW.out (.slice va bs.length vc) bs rfl HSE.out (by have := HL.out; omega) (by simp) ?_; intro x5 w5 hown5 hg5; have hb5 := below_grown HBE.out.drew HOW.out (Nat.le_refl _) (by simp) hg5; have HX5 := Lib.hid (show OB w5 w1.heap.size x5 bs from by unfold OB; simpa using hown5); obtain ⟨xa, xn, xc, rfl⟩ := HX5.out.sl.val; clear hown5 hg5; have y5 := HK.out.belowS hb5; have l5 := HK1.out.belowS hb5; have v5 := HK2.out.belowS hb5; have t0 : w5.cell? ⟨y, 0, none⟩ = some (.slice (some ⟨gl, 0, none⟩) d.l.length cl) := y5.cell 0; have t2 : w5.cell? ⟨y, 2, none⟩ = some (.slice (some ⟨gw, 0, none⟩) d.l.length cw) := y5.cell 2; have s1 : w5.cell? ⟨gl, j, none⟩ = some uo := (l5.cell j).trans HUO.out; have s2 := l5.frozen j; have v6 := v5.far (p := ⟨gl, j, none⟩) HN2.out.symm (.slice xa xn xc); have y6 := y5.far (p := ⟨gl, j, none⟩) HN1.out.symm (.slice xa xn xc); have t6 : (w5.setCell ⟨gl, j, none⟩ (.slice xa xn xc)).cell? ⟨y, 2, none⟩ = some (.slice (some ⟨gw, 0, none⟩) d.l.length cw) := y6.cell 2; have s3 : (w5.setCell ⟨gl, j, none⟩ (.slice xa xn xc)).cell? ⟨gw, j, none⟩ = some (.bool s.waits) := (v6.cell j).trans HUW.out; have s4 := v6.frozen j; have HB5 := Lib.hid hb5; clear hb5 y5 l5 v5 v6 y6)
        all_goals
          have so := HDD.out.ok s (List.mem_of_getElem? (show d.chg.l[j]? = some s from by rw [HLL.out]; exact HG.out))
          have hF := (HDD.out.below HB5.out).setNow (s := s) (by rw [HLL.out]; exact HG.out) (HX5.out.base (Nat.zero_le _)) true ⟨HL.out, so.2.1, hB, so.2.2.2.1, fun e => by cases e⟩
          rw [HLL.out] at hF
          have HF := Lib.hid (show RDev ((w5.setCell ⟨gl, j, none⟩ (.slice xa xn xc)).setCell ⟨gw, j, none⟩ (.bool true)) y gl gk gw { d.chg with l := d.l.modify j fun s => s.wrote bs } from by rw [modify_eq_set _ HG.out]; exact hF)
          have HO := Lib.hid (show Only [y, gl, gw] w ((w5.setCell ⟨gl, j, none⟩ (.slice xa xn xc)).setCell ⟨gw, j, none⟩ (.bool true)) from
            (HO1.out.mono (by simp)).trans ((Only.of_below _ HB5.out).trans ((Only.setCell _ _ (by simp) _).trans (Only.setCell _ _ (by simp) _))))
          clear so hF t0 t2 s1 s2 t6 s3 s4
          go_wp2
          go_ret
          exact ⟨rfl, HF.out, HO.out⟩
    · have hln : ((bs.length : Int) != 64) = true := by rw [bne_iff_ne]; omega
      have HE := Lib.hid (show d.wrE j bs = 1 ∧ d.wrote j bs = d from ⟨by unfold DSt.wrE; rw [if_pos hx, if_neg hl], by unfold DSt.wrote; rw [if_neg (fun q => hl q.2)]⟩)
      clear h hv hx hl hxx h1
      rw [HE.out.1, HE.out.2]
      go_enter Tryd.func67, Tryd.ntmps67
      go_wp2
      go_ret
      exact ⟨rfl, HD.out, Only.refl _ _⟩
  · have HE := Lib.hid (show d.wrE i bs = 1 ∧ d.wrote i bs = d from ⟨by unfold DSt.wrE; rw [if_neg hx], by unfold DSt.wrote; rw [if_neg (fun q => hx q.1)]⟩)
    have hy : i < 0 ∨ (d.l.length : Int) ≤ i := by
      unfold DSt.has at hx
      rw [decide_eq_true_eq] at hx
      omega
    rw [HE.out.1, HE.out.2]
    clear h hv hx h1
    rcases hy with hy | hy
    · go_enter Tryd.func67, Tryd.ntmps67
      go_wp2
      go_ret
      exact ⟨rfl, HD.out, Only.refl _ _⟩
    · have hz : ¬ i < 0 := by omega
      go_enter Tryd.func67, Tryd.ntmps67
      go_wp2
      go_ret
      exact ⟨rfl, HD.out, Only.refl _ _⟩

end Go.Proofs.YtgfkejecigefbaaDoor

namespace Go.Proofs.YtgfkejecigefbaaDoor
open Go.RowKit
set_option linter.unusedVariables false

/-- One sector's text and its waiting are settled. -/
theorem RDev.settle1 {w : World} {y gl gk gw : Nat} {d : DSt} (h : RDev w y gl gk gw d) {j : Nat} {s : Sec} (hj : d.l[j]? = some s) {u : Value} (hu : OB w 0 u s.now) :
    RDev ((w.setCell ⟨gk, j, none⟩ u).setCell ⟨gw, j, none⟩ (.bool false)) y gl gk gw { d with l := d.l.set j s.settled } := by
  have hjl : j < d.l.length := (List.getElem?_eq_some_iff.1 hj).1
  obtain ⟨cl, ck, cw, h1, h2, h3, k⟩ := h.blk
  obtain ⟨c1, k1⟩ := h.rl.typ
  obtain ⟨c2, k2⟩ := h.rk.typ
  obtain ⟨c3, k3⟩ := h.rw.typ
  have hne := h.ne
  have n1 : y ≠ gk := Blk.ne_ k k2 (by decide)
  have n2 : y ≠ gw := Blk.ne_ k k3 (by decide)
  have n3 : gk ≠ gw := Blk.ne_ k2 k3 (by decide)
  have n4 : gl ≠ gw := Blk.ne_ k1 k3 (by decide)
  have hr1 := h.rk.set j hu (by rw [List.length_map]; exact hjl)
  have hk1 := h.rl.only (Only.setCell [gk] w (p := ⟨gk, j, none⟩) (by simp) u) (fun q hq c e => by
    obtain rfl : q = gk := by simpa using hq
    exact Blk.ne_ e k2 (by decide) rfl) (by simp; exact fun e => hne e)
  have hw1 := h.rw.only (Only.setCell [gk] w (p := ⟨gk, j, none⟩) (by simp) u) (by simp; exact fun e => n3 e.symm)
  have k3' := k3.far (p := ⟨gk, j, none⟩) (fun e => n3 e.symm) u
  have hf : ∀ q ∈ [gw], ∀ c, ¬ Blk (w.setCell ⟨gk, j, none⟩ u) q 5 c := fun q hq c e => by
    obtain rfl : q = gw := by simpa using hq
    exact Blk.ne_ e k3' (by decide) rfl
  have ho2 := Only.setCell [gw] (w.setCell ⟨gk, j, none⟩ u) (p := ⟨gw, j, none⟩) (by simp) (.bool false)
  have hok : s.settled.ok := settled_ok (h.ok s (List.mem_of_getElem? hj))
  refine ⟨⟨cl, ck, cw, by rw [List.length_set]; exact h1, by rw [List.length_set]; exact h2, by rw [List.length_set]; exact h3, ?_⟩, ?_, ?_, ?_, hne, by rw [List.length_set]; exact h.pos, h.burns, set_ok h.ok hok⟩
  · rw [List.length_set]
    exact (k.far (p := ⟨gk, j, none⟩) n1 u).far (p := ⟨gw, j, none⟩) n2 (.bool false)
  · rw [List.map_set]
    have e : (d.l.map Sec.now).set j s.now = d.l.map Sec.now := by
      apply List.ext_getElem?; intro m
      by_cases q : j = m
      · subst q; rw [List.getElem?_set_self (by rw [List.length_map]; exact hjl), List.getElem?_map, hj]; rfl
      · rw [List.getElem?_set_ne q]
    show TRow _ gl ((d.l.map Sec.now).set j s.now)
    rw [e]; exact hk1.only ho2 hf (by simp; exact n4)
  · rw [List.map_set]; exact hr1.only ho2 hf (by simp; exact n3)
  · rw [List.map_set]; exact hw1.set j false (by rw [List.length_map]; exact hjl)
def DSt.withL (d : DSt) (l : List Sec) : DSt := { d with l := l }
/-- What is there to be read of one sector. -/
structure RAt (w : World) (y gl gk gw j cl ck cw n : Nat) (s : Sec) (un uk : Value) : Prop where
  y0 : w.cell? ⟨y, 0, none⟩ = some (.slice (some ⟨gl, 0, none⟩) n cl)
  y1 : w.cell? ⟨y, 1, none⟩ = some (.slice (some ⟨gk, 0, none⟩) n ck)
  y2 : w.cell? ⟨y, 2, none⟩ = some (.slice (some ⟨gw, 0, none⟩) n cw)
  l0 : w.cell? ⟨gl, j, none⟩ = some un
  k0 : w.cell? ⟨gk, j, none⟩ = some uk
  w0 : w.cell? ⟨gw, j, none⟩ = some (.bool s.waits)
  fl : w.frozen? ⟨gl, j, none⟩ = false
  fk : w.frozen? ⟨gk, j, none⟩ = false
  fw : w.frozen? ⟨gw, j, none⟩ = false
  on : OB w 0 un s.now
  ok : OB w 0 uk s.kept
theorem RDev.at_ {w : World} {y gl gk gw : Nat} {d : DSt} (h : RDev w y gl gk gw d) {j : Nat} {s : Sec} (hj : d.l[j]? = some s) : ∃ cl ck cw na nn nc ka kn kc, (d.l.length ≤ cl ∧ d.l.length ≤ ck ∧ d.l.length ≤ cw) ∧ RAt w y gl gk gw j cl ck cw d.l.length s (.slice na nn nc) (.slice ka kn kc) := by
  obtain ⟨cl, ck, cw, h1, h2, h3, k⟩ := h.blk
  obtain ⟨c1, k1, r1⟩ := h.rl
  obtain ⟨c2, k2, r2⟩ := h.rk
  obtain ⟨c3, k3, r3⟩ := h.rw
  obtain ⟨u, hu, hou⟩ := r1 j s.now (by rw [List.getElem?_map, hj]; rfl)
  obtain ⟨v, hv, hov⟩ := r2 j s.kept (by rw [List.getElem?_map, hj]; rfl)
  obtain ⟨na, nn, nc, rfl⟩ := hou.sl.val
  obtain ⟨ka, kn, kc, rfl⟩ := hov.sl.val
  exact ⟨cl, ck, cw, na, nn, nc, ka, kn, kc, ⟨h1.1, h2.1, h3.1⟩, k.cell 0, k.cell 1, k.cell 2, (k1.cell j).trans hu, (k2.cell j).trans hv, (k3.cell j).trans (r3 j s.waits (by rw [List.getElem?_map, hj]; rfl)), k1.frozen j, k2.frozen j, k3.frozen j, hou, hov⟩
theorem RDev.nes {w : World} {y gl gk gw : Nat} {d : DSt} (h : RDev w y gl gk gw d) : y ≠ gl ∧ y ≠ gk ∧ y ≠ gw ∧ gl ≠ gw ∧ gk ≠ gw ∧ gl ≠ gk := by
  obtain ⟨cl, ck, cw, h1, h2, h3, k⟩ := h.blk
  obtain ⟨c1, k1⟩ := h.rl.typ
  obtain ⟨c2, k2⟩ := h.rk.typ
  obtain ⟨c3, k3⟩ := h.rw.typ
  exact ⟨Blk.ne_ k k1 (by decide), Blk.ne_ k k2 (by decide), Blk.ne_ k k3 (by decide), Blk.ne_ k1 k3 (by decide), Blk.ne_ k2 k3 (by decide), h.ne⟩
/-- Another cell than the one that is stored to. -/
theorem far_ {w : World} {p q : Addr} {u v : Value} (h : w.cell? p = some v) (hn : q.block ≠ p.block) : (w.setCell q u).cell? p = some v := by
  rw [World.cell?_setCell_other _ _ _ _ (fun e => hn (by rw [e]))]; exact h
theorem farF_ {w : World} {p q : Addr} {u : Value} (h : w.frozen? p = false) (hn : q.block ≠ p.block) : (w.setCell q u).frozen? p = false :=
  (World.frozen?_of_block (w := w) (Below.heap_setCell w q u p.block (fun e => hn e.symm))).trans h

set_option maxRecDepth 100000 in
set_option maxHeartbeats 2000000 in
theorem rsync_any (w : World) (y gl gk gw : Nat) (d : DSt) (h : RDev w y gl gk gw d) :
    Calls Tryd.prog 68 #[.pointer (some ⟨y, 0, none⟩)] w fun e w' => e = .returned (.int .i64 d.chgE) ∧ RDev w' y gl gk gw d.synced ∧ Only [y, gk, gw] w w' := by
  have HC := Lib.hid (rburn_any w y gl gk gw d h)
  have HLL := Lib.hid (chg_l d)
  by_cases hs : d.stops = true
  · rw [show d.chgE = 70 from if_pos hs] at HC ⊢
    rw [show d.synced = d.chg from if_pos hs]
    clear hs h
    go_enter Tryd.func68, Tryd.ntmps68
    go_wp2_with fail
    refine HC.out.mono ?_
    rintro e w1 ⟨rfl, hD, hO⟩
    go_wp2
    go_ret
    exact ⟨rfl, hD, hO.mono (by simp)⟩
  · rw [show d.chgE = 0 from if_neg hs] at HC ⊢
    obtain ⟨d1, hd1⟩ : ∃ d1, d1 = d.chg := ⟨_, rfl⟩
    rw [show d.synced = d1.withL (d.l.mapIdx fun _ s => s.settled) from by rw [hd1]; exact if_neg hs]
    rw [← hd1] at HC HLL
    have hn := h.pos.2
    clear hs h hd1
    go_enter Tryd.func68, Tryd.ntmps68
    go_wp2_with fail
    refine HC.out.mono ?_
    rintro e w1 ⟨rfl, hD, hO⟩
    obtain ⟨cl0, ck0, cw0, h1, h2, h3, k⟩ := hD.blk
    rw [HLL.out] at h1 h2 h3 k
    have c0 : w1.cell? ⟨y, 0, none⟩ = some (.slice (some ⟨gl, 0, none⟩) d.l.length cl0) := k.cell 0
    have HD := Lib.hid hD
    have HO := Lib.hid hO
    clear hD hO k h1 h2 h3
    go_wp2
    go_loopw [4, 15] (fun _ i wr => ∃ k : Nat, k ≤ d.l.length ∧ i = .int .i64 k ∧ RDev wr y gl gk gw (d1.withL (upN (fun _ s => Sec.settled s) d.l k)) ∧ Only [gk, gw] w1 wr) (fun _ i _ => d.l.length - (intOf i).toNat)
    case atStart => exact ⟨0, by omega, rfl, by rw [upN_zero, ← HLL.out]; exact HD.out, Only.refl _ _⟩
    case round =>
      obtain ⟨k, hk, rfl, hr, ho⟩ := hrel
      by_cases hlt : k < d.l.length
      · have hkI : (k : Int) < (d.l.length : Int) := by omega
        have hg : d.l[k]? = some d.l[k] := List.getElem?_eq_getElem hlt
        have hU := upN_set (fun _ s => Sec.settled s) hg
        have hg2 := upN_at (fun _ s => Sec.settled s) hg
        obtain ⟨cl, ck, cw, na, nn, nc, ka, kn, kc, hcs, hA⟩ := hr.at_ hg2
        have hS1 := hr.settle1 hg2 hA.on
        have hnes := hr.nes
        generalize d.l[k] = s at *
        rw [show (d1.withL (upN (fun _ s => Sec.settled s) d.l k)).l.length = d.l.length from upN_len _ _ _] at hA hcs
        have HU := Lib.hid hU
        have HS1 := Lib.hid (show RDev ((wr.setCell ⟨gk, k, none⟩ (.slice na nn nc)).setCell ⟨gw, k, none⟩ (.bool false)).drew y gl gk gw (d1.withL (upN (fun _ s => Sec.settled s) d.l (k + 1))) from by rw [← HU.out]; exact hS1.only (bs := []) ⟨rfl, rfl, rfl, Nat.le_refl _, fun _ _ _ => rfl⟩ (by intro q hq; cases hq))
        have HOO := Lib.hid (show Only [gk, gw] w1 ((wr.setCell ⟨gk, k, none⟩ (.slice na nn nc)).setCell ⟨gw, k, none⟩ (.bool false)).drew from (ho.trans ((Only.setCell _ _ (by simp) _).trans (Only.setCell _ _ (by simp) _))).drew)
        have hwk : wrap64 ((k : Int) + 1) = ((k + 1 : Nat) : Int) := by rw [wrap64]; omega
        have y0 : wr.drew.cell? ⟨y, 0, none⟩ = some (.slice (some ⟨gl, 0, none⟩) d.l.length cl) := hA.y0
        have y1 : wr.drew.cell? ⟨y, 1, none⟩ = some (.slice (some ⟨gk, 0, none⟩) d.l.length ck) := hA.y1
        have y2 : wr.drew.cell? ⟨y, 2, none⟩ = some (.slice (some ⟨gw, 0, none⟩) d.l.length cw) := hA.y2
        have l0 : wr.drew.cell? ⟨gl, k, none⟩ = some (.slice na nn nc) := hA.l0
        have k0 : wr.drew.cell? ⟨gk, k, none⟩ = some (.slice ka kn kc) := hA.k0
        have v0 : wr.drew.cell? ⟨gw, k, none⟩ = some (.bool s.waits) := hA.w0
        have fk : wr.drew.frozen? ⟨gk, k, none⟩ = false := hA.fk
        have fw : wr.drew.frozen? ⟨gw, k, none⟩ = false := hA.fw
        have v1 : (wr.drew.setCell ⟨gk, k, none⟩ (.slice na nn nc)).cell? ⟨gw, k, none⟩ = some (.bool s.waits) := far_ v0 hnes.2.2.2.2.1
        have g1 : (wr.drew.setCell ⟨gk, k, none⟩ (.slice na nn nc)).frozen? ⟨gw, k, none⟩ = false := farF_ fw hnes.2.2.2.2.1
        have HG0 := Lib.hid (show wr.drew.cell? ⟨y, 0, none⟩ = some (.slice (some ⟨gl, 0, none⟩) d.l.length cl) ∧ wr.drew.cell? ⟨y, 1, none⟩ = some (.slice (some ⟨gk, 0, none⟩) d.l.length ck) ∧ wr.drew.cell? ⟨y, 2, none⟩ = some (.slice (some ⟨gw, 0, none⟩) d.l.length cw) ∧ wr.drew.cell? ⟨gl, k, none⟩ = some (.slice na nn nc) from ⟨y0, y1, y2, l0⟩)
        have HG1 := Lib.hid (show (wr.drew.setCell ⟨gk, k, none⟩ (.slice na nn nc)).cell? ⟨y, 0, none⟩ = some (.slice (some ⟨gl, 0, none⟩) d.l.length cl) ∧ (wr.drew.setCell ⟨gk, k, none⟩ (.slice na nn nc)).cell? ⟨y, 1, none⟩ = some (.slice (some ⟨gk, 0, none⟩) d.l.length ck) ∧ (wr.drew.setCell ⟨gk, k, none⟩ (.slice na nn nc)).cell? ⟨y, 2, none⟩ = some (.slice (some ⟨gw, 0, none⟩) d.l.length cw) ∧ (wr.drew.setCell ⟨gk, k, none⟩ (.slice na nn nc)).cell? ⟨gl, k, none⟩ = some (.slice na nn nc) from
          ⟨far_ y0 hnes.2.1.symm, far_ y1 hnes.2.1.symm, far_ y2 hnes.2.1.symm, far_ l0 hnes.2.2.2.2.2.symm⟩)
        have HG2 := Lib.hid (show ((wr.drew.setCell ⟨gk, k, none⟩ (.slice na nn nc)).setCell ⟨gw, k, none⟩ (.bool false)).cell? ⟨y, 0, none⟩ = some (.slice (some ⟨gl, 0, none⟩) d.l.length cl) ∧ ((wr.drew.setCell ⟨gk, k, none⟩ (.slice na nn nc)).setCell ⟨gw, k, none⟩ (.bool false)).cell? ⟨y, 1, none⟩ = some (.slice (some ⟨gk, 0, none⟩) d.l.length ck) ∧ ((wr.drew.setCell ⟨gk, k, none⟩ (.slice na nn nc)).setCell ⟨gw, k, none⟩ (.bool false)).cell? ⟨y, 2, none⟩ = some (.slice (some ⟨gw, 0, none⟩) d.l.length cw) ∧ ((wr.drew.setCell ⟨gk, k, none⟩ (.slice na nn nc)).setCell ⟨gw, k, none⟩ (.bool false)).cell? ⟨gl, k, none⟩ = some (.slice na nn nc) from
          ⟨far_ HG1.out.1 hnes.2.2.1.symm, far_ HG1.out.2.1 hnes.2.2.1.symm, far_ HG1.out.2.2.1 hnes.2.2.1.symm, far_ HG1.out.2.2.2 hnes.2.2.2.1.symm⟩)
        have p1 : ¬ gk = gw := hnes.2.2.2.2.1
        have p2 : ¬ gw = gk := fun e => hnes.2.2.2.2.1 e.symm
        have z1 : wr.cell? ⟨gw, k, none⟩ = some (.bool s.waits) := hA.w0
        have z2 : wr.frozen? ⟨gw, k, none⟩ = false := hA.fw
        have z0 : wr.cell? ⟨y, 0, none⟩ = some (.slice (some ⟨gl, 0, none⟩) d.l.length cl) := hA.y0
        clear hg hU hg2 hA hS1 hnes hr ho hcs
        go_wp2
        go_region_held3 (fun w' => w'.cell? ⟨y, 0, none⟩ = some (.slice (some ⟨gl, 0, none⟩) d.l.length cl) ∧ w'.cell? ⟨y, 1, none⟩ = some (.slice (some ⟨gk, 0, none⟩) d.l.length ck) ∧ w'.cell? ⟨y, 2, none⟩ = some (.slice (some ⟨gw, 0, none⟩) d.l.length cw) ∧ w'.cell? ⟨gl, k, none⟩ = some (.slice na nn nc)) (first | exact HG0.out | exact HG1.out | exact HG2.out) (first | fail)
        all_goals
          go_wp2
          exact ⟨⟨k + 1, hlt, rfl, HS1.out, HOO.out⟩, by simp [intOf]; omega⟩
      · obtain rfl : k = d.l.length := by omega
        have hkI : ¬ (d.l.length : Int) < (d.l.length : Int) := by omega
        rw [upN_all _ _ (Nat.le_refl _)] at hr
        have HR := Lib.hid hr
        have ho2 := (HO.out.mono (cs := [y, gk, gw]) (by simp)).trans (ho.mono (by simp))
        clear hr ho
        go_wp2
        go_ret
        exact ⟨rfl, HR.out, ho2⟩

end Go.Proofs.YtgfkejecigefbaaDoor
