
/- The walk of the reference's adds. -/
import Derived.Test.YtgfkejecigefbaaDoorShaF
import Derived.Laws.Tables
namespace Go.Proofs.YtgfkejecigefbaaDoor
open Go.RowKit
set_option linter.unusedVariables false

/-- The added words. -/
def addsC : Array Value := (addedI.map (Value.int .u32)).toArray

def addsP : List (Nat × Value) := [(0, .int .u32 1116352408), (1, .int .u32 1899447441), (2, .int .u32 3049323471), (3, .int .u32 3921009573), (4, .int .u32 961987163), (5, .int .u32 1508970993), (6, .int .u32 2453635748), (7, .int .u32 2870763221), (8, .int .u32 3624381080), (9, .int .u32 310598401), (10, .int .u32 607225278), (11, .int .u32 1426881987), (12, .int .u32 1925078388), (13, .int .u32 2162078206), (14, .int .u32 2614888103), (15, .int .u32 3248222580), (16, .int .u32 3835390401), (17, .int .u32 4022224774), (18, .int .u32 264347078), (19, .int .u32 604807628), (20, .int .u32 770255983), (21, .int .u32 1249150122), (22, .int .u32 1555081692), (23, .int .u32 1996064986), (24, .int .u32 2554220882), (25, .int .u32 2821834349), (26, .int .u32 2952996808), (27, .int .u32 3210313671), (28, .int .u32 3336571891), (29, .int .u32 3584528711), (30, .int .u32 113926993), (31, .int .u32 338241895), (32, .int .u32 666307205), (33, .int .u32 773529912), (34, .int .u32 1294757372), (35, .int .u32 1396182291), (36, .int .u32 1695183700), (37, .int .u32 1986661051), (38, .int .u32 2177026350), (39, .int .u32 2456956037), (40, .int .u32 2730485921), (41, .int .u32 2820302411), (42, .int .u32 3259730800), (43, .int .u32 3345764771), (44, .int .u32 3516065817), (45, .int .u32 3600352804), (46, .int .u32 4094571909), (47, .int .u32 275423344), (48, .int .u32 430227734), (49, .int .u32 506948616), (50, .int .u32 659060556), (51, .int .u32 883997877), (52, .int .u32 958139571), (53, .int .u32 1322822218), (54, .int .u32 1537002063), (55, .int .u32 1747873779), (56, .int .u32 1955562222), (57, .int .u32 2024104815), (58, .int .u32 2227730452), (59, .int .u32 2361852424), (60, .int .u32 2428436474), (61, .int .u32 2756734187), (62, .int .u32 3204031479), (63, .int .u32 3329325298)]

theorem built_adds : Tryd.prog.built 157 addsP = some addsC := by kernel_rfl
theorem wpList_build_eq {P : Program} {ops : Array Oper} {rest : List Oper} {o : Oper} {a : Act} {w : World} {Q : Exit → Act → World → Prop} (hg : o.guard = none) (t : TypeId) (parts : Array (Nat × Operand)) (ho : o.op = .build t parts) (cells : Array Value)
    (hf : P.built t (parts.map fun (i, x) => (i, a.eval x)).toList = some cells)
    (h : wpList P ops Q rest (a.put o.dst (.agg cells)) w) : wpList P ops Q (o :: rest) a w :=
  wpList_build hg t parts ho (by rw [hf]; rfl) (by rw [hf]; exact h)

set_option maxRecDepth 100000 in
set_option maxHeartbeats 1000000 in
theorem adds_any (w : World) : Calls Tryd.prog 130 #[] w fun e w' => e = .returned (.agg addsC) ∧ Below w.heap.size w w' := by
  have hs1 : addsC.size = 64 := by decide
  have hs2 : addsC.all (·.oneCell') = true := by kernel_rfl
  have hs3 : (Tryd.prog.info? 157).map (·.size) = some 64 := by kernel_rfl
  go_enter Tryd.func130, Tryd.ntmps130
  go_upto_region 1 with (fail)
  refine wp_region_lit ?_
  refine wpList_build_eq rfl _ _ rfl addsC (by rw [show (Array.map _ _ : Array _).toList = addsP from by kernel_rfl, built_adds]) ?_
  refine wpList_store_row rfl _ _ _ rfl w.heap.size addsC rfl rfl 157 _ (heap_alloc_new _ _) (hs3.trans (by rw [hs1])) (by rw [hs1]; rfl) hs2 ?_
  rw [wpList]
  simp only [Exit.then]
  go_at_K
  go_step
  refine wp_ret ?_
  refine bodyPost_ret (results_cell_row rfl _ _ w.heap.size 157 addsC (0, 0) (.array 64 117) rfl (setRow_heap _ _ _ _ _ _ (heap_alloc_new _ _)) (by kernel_rfl) (by rfl) (hs3.trans (by rw [hs1]))) rfl ?_
  exact ⟨rfl, below_setRow ((Below.refl _ _).alloc (Nat.le_refl _) _) (Nat.le_refl _) _⟩

end Go.Proofs.YtgfkejecigefbaaDoor
