
/- A device: a sector stays as it is; Sync. -/
import Derived.Test.YtgfkejecigefbaaDoorDvB
namespace Go.Proofs.YtgfkejecigefbaaDoor
open Go.RowKit
set_option linter.unusedVariables false

theorem size64 : (Tryd.prog.info? 85).map (·.size) = some 64 := by kernel_rfl
theorem size64L {l : List Int} (h : l.length = 64) : (Tryd.prog.info? 85).map (·.size) = some (l.map (Value.int .u8)).length := by rw [List.length_map, h]; exact size64
theorem oneB (l : List Int) : ∀ v ∈ l.map (Value.int .u8), v.oneCell' = true := by
  intro v hv
  obtain ⟨n, _, rfl⟩ := List.mem_map.1 hv
  rfl
def Sec.settled (s : Sec) : Sec := { now := s.now, kept := s.now, waits := false }

set_option maxHeartbeats 400000 in
theorem settle_any (w : World) (b i : Nat) (l : List Sec) (s : Sec) (hR : SRow w b l) (hi : l[i]? = some s) :
    Calls Tryd.prog 44 #[.pointer (some ⟨b, i * 129, none⟩)] w fun e w' => e = .returned (.tuple #[]) ∧ SRow w' b (l.set i s.settled) ∧ Only [b] w w' := by
  have hS := hR.at_ i s hi
  have hL := hR.len s (List.mem_of_getElem? hi)
  have hT : w.there b (i * 129 + 64) (s.now.map (Value.int .u8)).toArray.size := by
    have := hR.there hS.kept
    rw [List.length_map, hL.2] at this
    rw [List.size_toArray, List.length_map, hL.1]; exact this
  have hR1 := hR.setKept hi (bs := s.now) hL.1
  have hil : i < l.length := (List.getElem?_eq_some_iff.1 hi).1
  have hi1 : (l.set i { s with kept := s.now })[i]? = some { s with kept := s.now } := List.getElem?_set_self hil
  have hR2 := hR1.setWaits hi1 false
  have hO := (Only.setCells [b] w (b := b) (by simp) (i * 129 + 64) (s.now.map (Value.int .u8))).trans (Only.setCell [b] _ (p := ⟨b, i * 129 + 128, none⟩) (by simp) (.bool false))
  have c3 : (w.setCells b (i * 129 + 64) (s.now.map (Value.int .u8))).cell? ⟨b, i * 129 + 128, none⟩ = some (.bool s.waits) := (hR1.at_ i _ hi1).waits
  have f3 : (w.setCells b (i * 129 + 64) (s.now.map (Value.int .u8))).frozen? ⟨b, i * 129 + 128, none⟩ = false := by obtain ⟨cur, k⟩ := hR1.typ; exact k.frozen _
  rw [List.set_set] at hR2
  have HR := Lib.hid hR2
  have HO := Lib.hid hO
  have HN := Lib.hid hS.now
  have HT := Lib.hid hT
  have HL := Lib.hid hL
  clear hR hS hR1 hR2 hO hi hi1 hT hL
  go_enter Tryd.func44, Tryd.ntmps44
  go_wp2_with (first
    | (with_reducible refine wpList_load_mid rfl _ _ rfl b (i * 129) rfl (s.now.map (Value.int .u8)) _ HN.out Tryd.underlying85 rfl (size64L HL.out.1) ?_)
    | (refine wpList_store_mid rfl 85 _ _ rfl b (i * 129 + 64) (s.now.map (Value.int .u8)).toArray rfl rfl HT.out (by rw [List.size_toArray]; exact size64L HL.out.1) (all_oneCell_toArray (oneB _)) ?_))
  go_end0
  exact ⟨rfl, HR.out, HO.out⟩

/-- The first k of a list turned. -/
def upN {α : Type} (f : Nat → α → α) (l : List α) (k : Nat) : List α := l.mapIdx fun i s => if i < k then f i s else s
theorem upN_get {α : Type} (f : Nat → α → α) (l : List α) (k i : Nat) : (upN f l k)[i]? = l[i]?.map fun s => if i < k then f i s else s := by
  unfold upN; rw [List.getElem?_mapIdx]
theorem upN_len {α : Type} (f : Nat → α → α) (l : List α) (k : Nat) : (upN f l k).length = l.length := by simp [upN]
theorem upN_zero {α : Type} (f : Nat → α → α) (l : List α) : upN f l 0 = l := by
  apply List.ext_getElem?; intro i; rw [upN_get]; simp
theorem upN_all {α : Type} (f : Nat → α → α) (l : List α) {k : Nat} (hk : l.length ≤ k) : upN f l k = l.mapIdx f := by
  apply List.ext_getElem?; intro i
  rw [upN_get, List.getElem?_mapIdx]
  rcases Nat.lt_or_ge i l.length with h | h
  · rw [List.getElem?_eq_getElem h]; simp; omega
  · rw [List.getElem?_eq_none h]; rfl
theorem upN_at {α : Type} (f : Nat → α → α) {l : List α} {k : Nat} {s : α} (h : l[k]? = some s) : (upN f l k)[k]? = some s := by
  rw [upN_get, h]; simp
theorem upN_set {α : Type} (f : Nat → α → α) {l : List α} {k : Nat} {s : α} (h : l[k]? = some s) : (upN f l k).set k (f k s) = upN f l (k + 1) := by
  have hk : k < l.length := (List.getElem?_eq_some_iff.1 h).1
  apply List.ext_getElem?; intro i
  by_cases e : k = i
  · subst e
    rw [List.getElem?_set_self (by rw [upN_len]; exact hk), upN_get, h]; simp
  · rw [List.getElem?_set_ne e, upN_get, upN_get]
    congr 1
    funext t
    by_cases q : i < k
    · rw [if_pos q, if_pos (by omega)]
    · rw [if_neg q, if_neg (by omega)]

def DSt.synced (d : DSt) : DSt := if d.stops = true then d.chg else { d.chg with l := d.l.mapIdx fun _ s => s.settled }
theorem settled_ok {s : Sec} (h : s.ok) : s.settled.ok := ⟨h.1, h.1, h.2.2.1, h.2.2.1, fun _ => rfl⟩
theorem mapIdx_ok {l : List Sec} {f : Nat → Sec → Sec} (h : ∀ s ∈ l, s.ok) (hf : ∀ i s, s ∈ l → s.ok → (f i s).ok) : ∀ s ∈ l.mapIdx f, s.ok := by
  intro s hs
  obtain ⟨i, hi, rfl⟩ := List.mem_mapIdx.1 hs
  exact hf _ _ (List.getElem_mem hi) (h _ (List.getElem_mem hi))

set_option maxRecDepth 100000 in
set_option maxHeartbeats 1000000 in
theorem dsync_any (w : World) (g b : Nat) (d : DSt) (h : Dev w g b d) :
    Calls Tryd.prog 63 #[.pointer (some ⟨g, 0, none⟩)] w fun e w' => e = .returned (.int .i64 d.chgE) ∧ Dev w' g b d.synced ∧ Only [g, b] w w' := by
  have HN := Lib.hid (dnone_any w g b d h)
  have HC := Lib.hid (dchange_any w g b d h)
  by_cases hs : d.stops = true
  · have HE := Lib.hid (show d.chgE = 70 from if_pos hs)
    have HY := Lib.hid (show d.synced = d.chg from if_pos hs)
    clear hs h
    rw [HE.out] at HC ⊢
    go_enter Tryd.func63, Tryd.ntmps63
    go_wp2_with fail
    refine HN.out.mono ?_
    rintro e w1 ⟨rfl, rfl⟩
    go_wp2_with fail
    refine HC.out.mono ?_
    rintro e w1 ⟨rfl, hD, hO⟩
    go_wp2
    go_ret
    exact ⟨rfl, by rw [HY.out]; exact hD, hO.mono (by simp)⟩
  · have HE := Lib.hid (show d.chgE = 0 from if_neg hs)
    have HY := Lib.hid (show d.synced = { d.chg with l := d.l.mapIdx fun _ s => s.settled } from if_neg hs)
    have HLL := Lib.hid (chg_l d)
    have HP := Lib.hid h.pos
    have HOK := Lib.hid h.ok
    clear hs h
    rw [HE.out] at HC ⊢
    go_enter Tryd.func63, Tryd.ntmps63
    go_wp2_with fail
    refine HN.out.mono ?_
    rintro e w1 ⟨rfl, rfl⟩
    go_wp2_with fail
    refine HC.out.mono ?_
    rintro e w1 ⟨rfl, hD, hO⟩
    obtain ⟨cap, h1, h2, k⟩ := hD.blk
    have hR := hD.row
    rw [HLL.out] at h1 k hR
    have c0 : w1.cell? ⟨g, 0, none⟩ = some (.slice (some ⟨b, 0, none⟩) d.l.length cap) := k.cell 0
    have HK := Lib.hid k
    have HNE := Lib.hid hD.ne
    have HO := Lib.hid hO
    have hn : d.l.length ≤ 16384 := HP.out.2
    have HR0 := Lib.hid hR
    clear hD k hR hO
    go_wp2
    go_loopw [4, 17] (fun _ i wr => ∃ k : Nat, k ≤ d.l.length ∧ i = .int .i64 k ∧ SRow wr b (upN (fun _ s => Sec.settled s) d.l k) ∧ Only [b] w1 wr) (fun _ i _ => d.l.length - (intOf i).toNat)
    case atStart => exact ⟨0, by omega, rfl, by rw [upN_zero]; exact HR0.out, Only.refl _ _⟩
    case round =>
      obtain ⟨k, hk, rfl, hr, ho⟩ := hrel
      have c0 : wr.cell? ⟨g, 0, none⟩ = some (.slice (some ⟨b, 0, none⟩) d.l.length cap) := (ho.blk HK.out (by simp; exact HNE.out)).cell 0
      by_cases hlt : k < d.l.length
      · have hkI : (k : Int) < (d.l.length : Int) := by omega
        have hg : d.l[k]? = some d.l[k] := List.getElem?_eq_getElem hlt
        have HS := Lib.hid (settle_any wr b k _ _ hr (upN_at (fun _ s => Sec.settled s) hg))
        have HU := Lib.hid (upN_set (fun _ s => Sec.settled s) hg)
        have HOO := Lib.hid ho
        clear hr hg ho
        go_wp2_with (go_at_call 44; refine HS.out.mono ?_; rintro e w2 ⟨rfl, hr2, ho2⟩)
        have hr3 : SRow w2 b (upN (fun _ s => Sec.settled s) d.l (k + 1)) := by rw [← HU.out]; exact hr2
        have ho3 := HOO.out.trans ho2
        clear hr2 ho2
        go_wp2
        go_roundw
        case rel => exact ⟨k + 1, by omega, by go_num, hr3, ho3⟩
        case measure => simp [intOf]; omega
      · obtain rfl : k = d.l.length := by omega
        have hkI : ¬ (d.l.length : Int) < (d.l.length : Int) := by omega
        have hfin : Dev wr g b d.synced := by
          rw [HY.out]
          refine ⟨⟨cap, by rw [List.length_mapIdx]; exact h1, h2, ?_⟩, ?_, by rw [List.length_mapIdx]; exact HP.out, mapIdx_ok HOK.out fun _ _ _ q => settled_ok q⟩
          · rw [List.length_mapIdx]; exact ho.blk HK.out (by simp; exact HNE.out)
          · rw [upN_all _ _ (Nat.le_refl _)] at hr; exact hr
        have ho2 := (HO.out.mono (cs := [g, b]) (by simp)).trans (ho.mono (by simp))
        clear hr ho
        go_wp2
        go_ret
        exact ⟨rfl, hfin, ho2⟩

end Go.Proofs.YtgfkejecigefbaaDoor
