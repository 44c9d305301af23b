
/- make([]byte, n), and copy onto it. Conditions: none. -/
import Derived.Test.YtgfkejecigefbaaDoorOwnT
import Derived.Deep.OwnRows
import Derived.Laws.OwnMore
import Derived.Laws.CopyOwn
namespace Go.Proofs.YtgfkejecigefbaaDoor
open Go.RowKit
set_option linter.unusedVariables false

theorem run_make_bytes (n : Nat) (hn : n ≤ 140737488355328) (w : World) :
    (Instr.makeSlice 26 (.int .i64 n) (.int .i64 n)).run Tryd.prog w = .ok (.slice (some ⟨w.heap.size, 0, none⟩) n n) (w.alloc (.cells (Array.replicate n (Value.int .u8 0)) 5)) := by
  have h := run_make_row' (P := Tryd.prog) 26 5 (.int .u8 0) 1 Tryd.underlying26 (by kernel_rfl) rfl .i64 .i64 n (by omega) (by omega) w
  rw [h]
  have e : madeCells #[.int .u8 0] n = Array.replicate n (Value.int .u8 0) := by
    apply Array.ext'
    rw [toList_madeCells_one]
    simp
  rw [e]

/-- The first n of some bytes, noughts behind them. -/
def padTo (n : Nat) (b : List Int) : List Int := b.take n ++ List.replicate (n - b.length) 0
theorem padTo_len (n : Nat) (b : List Int) : (padTo n b).length = n := by simp [padTo]; omega
theorem padTo_isB {b : List Int} (h : IsB b) (n : Nat) : IsB (padTo n b) := (h.take n).append (fun x hx => by rw [List.eq_of_mem_replicate hx]; omega)

theorem infoSize8 : (Tryd.prog.info? 5).map (·.size) = some 1 := by kernel_rfl

theorem Sl.ofBlk {w : World} {g : Nat} {t : TypeId} {xs : List Value} (h : Blk w g t xs.toArray) (n : Nat) (hn : n = xs.length) (hm : xs.length ≤ maxLen) : Sl w (.slice (some ⟨g, 0, none⟩) n n) xs := by
  subst hn
  refine ⟨_, xs.length, rfl, Nat.le_refl _, hm, fun hp => ⟨g, 0, rfl, h.lt, fun j u hu => ?_⟩⟩
  rw [h.cell]
  simpa using hu

theorem wpList_copy_pad {w : World} {ops : Array Oper} {rest : List Oper} {o : Oper} {a : Act} {Q : Exit → Act → World → Prop} (hgd : o.guard = none) (d s : Operand)
    (ho : o.op = .call { callee := .builtin .copy, args := #[d, s], argTypes := #[26, 26] })
    (g n cap : Nat) (hd : a.eval d = .slice (some ⟨g, 0, none⟩) n cap) (u : Value) (ys : List Int) (hs : a.eval s = u) (hsl : Sl w u (ys.map (Value.int .u8)))
    (hg0 : Blk w g 5 (Array.replicate n (Value.int .u8 0))) (B : Nat) (w0 : World) (hb : Below B w0 w) (hBg : B ≤ g)
    (h : ∀ w' (k : Int), Hid (Blk w' g 5 (((padTo n ys).map (Value.int .u8)).toArray)) → Below B w0 w' → wpList Tryd.prog ops Q rest (a.put o.dst (.int .i64 k)) w') : wpList Tryd.prog ops Q (o :: rest) a w := by
  have hg : Blk w g 5 (((List.replicate n (0 : Int)).map (Value.int .u8)).toArray) := by
    rw [List.map_replicate, List.toArray_replicate]; exact hg0
  obtain ⟨ua, uc, rfl, h1, h2, h3⟩ := hsl
  rw [List.length_map] at *
  refine wpList_copy_splice hgd d s _ _ ho 5 Tryd.underlying26 infoSize8 (some ⟨g, 0, none⟩) ua n cap ys.length uc hd hs g 0 ((List.replicate n (0 : Int)).map (Value.int .u8)) 5 hg ((ys.take n).map (Value.int .u8))
    (by rw [List.length_map, List.length_take]; exact Nat.min_comm _ _) (fun hp => ⟨rfl, ?_⟩) (by simp; omega) (one8 _) B w0 hb hBg (fun w' hw' hb' => ?_)
  · obtain ⟨b, off, rfl, hlt, hc⟩ := h3 (by simp at hp ⊢; omega)
    refine ⟨_, rfl, fun j v hv => ?_⟩
    rw [add_plain0]
    refine hc j v ?_
    rw [List.getElem?_map, List.getElem?_take] at hv
    rw [List.getElem?_map]
    split at hv
    · exact hv
    · cases hv
  · refine h w' _ ?_ hb'
    have e : splice ((List.replicate n (0 : Int)).map (Value.int .u8)) 0 ((ys.take n).map (Value.int .u8)) = (padTo n ys).map (Value.int .u8) := by
      unfold splice padTo
      rw [List.take_zero, List.nil_append, Nat.zero_add, ← List.map_drop, List.length_map, List.drop_replicate, ← List.map_append]
      congr 3
      simp
      omega
    show Blk w' g _ _
    rw [← e]
    exact hw'.out

end Go.Proofs.YtgfkejecigefbaaDoor
