/- The walks of Fold where it takes what it is given, of sized, and of the law MerkleBack. -/
import Derived.Test.YtkabinicmdcbpaaDoorMerP
import Derived.Test.YtkabinicmdcbpaaDoorMake
namespace Go.Proofs.YtkabinicmdcbpaaDoor
open Go.RowKit
set_option linter.unusedVariables false

/-- What Fold comes to. -/
def foldC (size n fr : Nat) (ins os : List (List Int)) : List Int := if n = 0 then hashT size 0 [] else (foldI size fr ((fr : Int) + ins.length) (0 : Nat) n ins os).1

set_option maxRecDepth 100000 in
set_option maxHeartbeats 2000000 in
theorem fold_ok (size : Nat) (n fr : Nat) (iv : Value) (ins : List (List Int)) (ov : Value) (os : List (List Int)) (w : World) (hz : 1 ≤ size ∧ size ≤ 32) (hn : n ≤ 1048576) (hfr : fr + ins.length ≤ n) (hcnt : os.length = (outs fr ((fr : Int) + ins.length) 0 n).length)
    (h1 : ¬ ∃ p ∈ ins, ¬ (p.length : Int) = (size : Int)) (h2 : ¬ ∃ p ∈ os, ¬ (p.length : Int) = (size : Int)) (he : 0 < n → enough fr ((fr : Int) + ins.length) (0 : Nat) n size ins os) (hBi : ∀ p ∈ ins, IsB p) (hBo : ∀ p ∈ os, IsB p) (hsi : Sls w iv ins) (hso : Sls w ov os) (ht : Tabs w) :
    Calls Tryd.prog 30 #[.int .i64 size, .int .i64 n, .int .i64 fr, iv, ov] w fun e w' => ∃ x, e = .returned (.tuple #[x, .int .i64 0]) ∧ Sl w' x ((foldC size n fr ins os).map (Value.int .u8)) ∧ Below w.heap.size w w' := by
  obtain ⟨ia, ic, rfl, hic, him⟩ := hsi.shape
  obtain ⟨oa, oc, rfl, hoc, hom⟩ := hso.shape
  have z1 : (1 : Int) ≤ (size : Int) := by omega
  have z2 : (size : Int) ≤ 32 := by omega
  have hnI : (n : Int) ≤ 1048576 := by omega
  have hfI : (fr : Int) ≤ (n : Int) := by omega
  have hfI2 : (ins.length : Int) ≤ (n : Int) - (fr : Int) := by omega
  have HCN := Lib.hid (fun w1 => count_any n fr ((fr : Int) + ins.length) w1 hn (by omega))
  rw [← hcnt] at HCN
  have hb1 : Below w.heap.size w (w.alloc (.cells #[.int .i64 size] 3)) := (Below.refl _ _).alloc (Nat.le_refl _) _
  have hb2 : Below w.heap.size w ((w.alloc (.cells #[.int .i64 size] 3)).alloc (.cells #[.int .i64 fr, .int .i64 ((fr : Int) + ins.length)] 106)) := hb1.alloc hb1.size _
  have k1 := (Blk.new w 3 #[.int .i64 size]).alloc (.cells #[.int .i64 fr, .int .i64 ((fr : Int) + ins.length)] 106)
  have k2 : Blk ((w.alloc (.cells #[.int .i64 size] 3)).alloc (.cells #[.int .i64 fr, .int .i64 ((fr : Int) + ins.length)] 106)) (w.heap.size + 1) 106 #[.int .i64 fr, .int .i64 ((fr : Int) + ins.length)] := by
    have := Blk.new (w.alloc (.cells #[.int .i64 size] 3)) 106 #[.int .i64 fr, .int .i64 ((fr : Int) + ins.length)]
    simpa using this
  generalize hw2 : ((w.alloc (.cells #[.int .i64 size] 3)).alloc (.cells #[.int .i64 fr, .int .i64 ((fr : Int) + ins.length)] 106)) = w2 at *
  have q1 : w2.cell? ⟨w.heap.size, 0, none⟩ = some (.int .i64 size) := k1.cell 0
  have q2 : w2.cell? ⟨w.heap.size + 1, 0, none⟩ = some (.int .i64 fr) := k2.cell 0
  have q3 : w2.cell? ⟨w.heap.size + 1, 1, none⟩ = some (.int .i64 ((fr : Int) + ins.length)) := k2.cell 1
  have H1 := Lib.hid h1
  have H2 := Lib.hid h2
  have HE := Lib.hid he
  have HC := Lib.hid hcnt
  have HBi := Lib.hid hBi
  have HBo := Lib.hid hBo
  have HTb := Lib.hid (fun v (h : Below w.heap.size w v) => ht.below h)
  have HSi := Lib.hid (fun v (h : Below w.heap.size w v) => hsi.below h (Nat.le_refl _))
  have HSo := Lib.hid (fun v (h : Below w.heap.size w v) => hso.below h (Nat.le_refl _))
  clear hcnt h1 h2 he hBi hBo ht hsi hso hfr
  go_enter Tryd.func30, Tryd.ntmps30
  go_wp2_with fail
  refine (HCN.out w2).mono ?_
  rintro e w3 ⟨rfl, hb3⟩
  have k1 := k1.belowS hb3
  have k2 := k2.belowS hb3
  have hb3 := below_trans2 hb2 hb3
  clear q1 q2 q3 hw2
  have HM1 := Lib.hid (mfContains_any (.slice ia ins.length ic) ins w.heap.size size w3 k1 (HSi.out _ hb3))
  have HM2 := Lib.hid (mfContains_any (.slice oa os.length oc) os w.heap.size size w3 k1 (HSo.out _ hb3))
  rw [decide_eq_false H1.out] at HM1
  rw [decide_eq_false H2.out] at HM2
  go_wp2_with fail
  refine HM1.out.mono ?_
  rintro e w4 ⟨rfl, rfl⟩
  go_wp2_with fail
  refine HM2.out.mono ?_
  rintro e w4 ⟨rfl, rfl⟩
  have q1 : w3.cell? ⟨w.heap.size, 0, none⟩ = some (.int .i64 size) := k1.cell 0
  have q2 : w3.cell? ⟨w.heap.size + 1, 0, none⟩ = some (.int .i64 fr) := k2.cell 0
  have q3 : w3.cell? ⟨w.heap.size + 1, 1, none⟩ = some (.int .i64 ((fr : Int) + ins.length)) := k2.cell 1
  by_cases hn0 : n = 0
  · subst hn0
    have HR := Lib.hid (root_any size 0 [] (by simp) (.slice none 0 0) w3 (by simp) (by simp) (by simp) ⟨[], Sl.nil _, rfl, fun i u bs hu _ => by simp at hu⟩ (HTb.out _ hb3))
    rw [rootI_zero] at HR
    clear k1 k2 HM1 HM2
    go_wp2_with fail
    refine HR.out.mono ?_
    rintro e w5 ⟨x, rfl, hx, hb5⟩
    have hb5 := below_trans2 hb3 hb5
    go_wp2
    go_ret2
    exact ⟨_, rfl, by unfold foldC; rw [if_pos rfl]; exact hx, hb5⟩
  · have hn1 : 0 < n := Nat.pos_of_ne_zero hn0
    have hnI0 : ¬ (n : Int) = 0 := by omega
    have hbF : Below w3.heap.size w3 (w3.alloc (.cells #[.int .i64 size, .slice ia ins.length ic, .slice oa os.length oc] 113)) := (Below.refl _ _).alloc (Nat.le_refl _) _
    have kF := Blk.new w3 113 #[.int .i64 size, .slice ia ins.length ic, .slice oa os.length oc]
    have k24 := k2.belowS hbF
    have q5 : (w3.alloc (.cells #[.int .i64 size, .slice ia ins.length ic, .slice oa os.length oc] 113)).cell? ⟨w.heap.size + 1, 0, none⟩ = some (.int .i64 fr) := k24.cell 0
    have q6 : (w3.alloc (.cells #[.int .i64 size, .slice ia ins.length ic, .slice oa os.length oc] 113)).cell? ⟨w.heap.size + 1, 1, none⟩ = some (.int .i64 ((fr : Int) + ins.length)) := k24.cell 1
    have HR := Lib.hid (froot_any size fr ((fr : Int) + ins.length) w3.heap.size w3 (Nat.le_refl _) (HTb.out _ hb3) n n (Nat.le_refl _) hn1 (0 : Nat) ins os _ _ _ (by omega) (HE.out hn1) HBi.out HBo.out hbF kF (HSi.out _ hb3) (HSo.out _ hb3))
    have HRB := Lib.hid (foldI_isB size fr ((fr : Int) + ins.length) n n (Nat.le_refl _) (0 : Nat) ins os HBi.out HBo.out).1
    have HRL := Lib.hid (foldI_len size fr ((fr : Int) + ins.length) n n (Nat.le_refl _) (0 : Nat) ins os (fun p hp => by
      rcases Decidable.em ((p.length : Int) = (size : Int)) with h | h
      · omega
      · exact absurd ⟨p, hp, h⟩ H1.out) (fun p hp => by
      rcases Decidable.em ((p.length : Int) = (size : Int)) with h | h
      · omega
      · exact absurd ⟨p, hp, h⟩ H2.out))
    clear k1 k2 HM1 HM2 k24 kF
    go_wp2_with fail
    refine HR.out.mono ?_
    rintro e w5 ⟨x, iv, ov, rfl, hx, _, _, _, hg5⟩
    have hb5 : Below w.heap.size w w5 := (hb3.trans (hbF.mono hb3.size)).trans ⟨hg5.os, hg5.tape, hg5.output, hg5.size, fun k hk => hg5.block k (by have := hb3.size; have := hbF.size; omega) (fun e => by injection e with e; have := hb3.size; omega)⟩
    clear hg5
    go_wp2_with fail
    refine (sclone_any x _ w5 (by have := HRL.out; omega) hx).mono ?_
    rintro e w6 ⟨y, rfl, hy, hb6⟩
    have hb6 := below_trans2 hb5 hb6
    go_wp2
    go_ret2
    exact ⟨_, rfl, by unfold foldC; rw [if_neg hn0]; exact hy, hb6⟩

def FewPost (w : World) (ps : List (List Int)) (e : Ending) (w' : World) : Prop := ∃ v', e = .returned v' ∧ Sls w v' ps ∧ w = w'
theorem few11_any (v : Value) (pss : List (List Int)) (w : World) (h : Sls w v pss) :
    Calls Tryd.prog 76 #[v] w (FewPost w (pss.take 40)) := by
  obtain ⟨a, cap, rfl, hc, hm⟩ := h.shape
  by_cases hl : pss.length ≤ 40
  · have hI : ¬ (40 : Int) < (pss.length : Int) := by omega
    have HM := Lib.hid (show (min (pss.length : Int) 40).toNat = pss.length by omega)
    go_enter Tryd.func76, Tryd.ntmps76
    go_wp2
    go_ret
    exact ⟨_, rfl, by rw [List.take_of_length_le hl]; first | exact h | (rw [HM.out]; exact h), rfl⟩
  · have hI : (40 : Int) < (pss.length : Int) := by omega
    have hcI : (40 : Int) ≤ (cap : Int) := by omega
    have HM := Lib.hid (show (min (pss.length : Int) 40).toNat = 40 by omega)
    go_enter Tryd.func76, Tryd.ntmps76
    go_wp2
    go_ret
    exact ⟨_, rfl, by first | exact h.take 40 (by omega) | (rw [HM.out]; exact h.take 40 (by omega)), rfl⟩

def padAll (l : List (List Int)) (k : Nat) : List (List Int) := (l.take k).map (padTo 4)
theorem padAll_succ (l : List (List Int)) (k : Nat) (h : k < l.length) : padAll l (k + 1) = padAll l k ++ [padTo 4 (l.getD k [])] := by
  unfold padAll
  rw [List.take_succ_eq_append_getElem h, List.map_append, List.getD_eq_getElem?_getD, List.getElem?_eq_getElem h]; rfl
theorem padAll_len (l : List (List Int)) (k : Nat) : (padAll l k).length = min k l.length := by simp [padAll]

set_option maxRecDepth 100000 in
set_option maxHeartbeats 1000000 in
theorem sized_any (v : Value) (l0 : List (List Int)) (w : World) (hs0 : Sls w v l0) :
    Calls Tryd.prog 27 #[v] w fun e w' => ∃ x, e = .returned x ∧ OSls w' w.heap.size x (padAll (l0.take 40) 40) ∧ Below w.heap.size w w' := by
  have hmk := fun w1 => run_make_bytes 4 (by omega) w1
  simp only [show ((4 : Nat) : Int) = 4 from rfl] at hmk
  go_enter Tryd.func27, Tryd.ntmps27
  go_wp2_with fail
  refine (few11_any v l0 w hs0).mono ?_
  rintro e w1 ⟨v1, rfl, hs, rfl⟩
  have hl40 : (l0.take 40).length ≤ 40 := by rw [List.length_take]; omega
  obtain ⟨l, hle⟩ : ∃ l, l = l0.take 40 := ⟨_, rfl⟩
  rw [← hle] at hs hl40
  have HLE := Lib.hid hle
  clear hle
  obtain ⟨a, c, rfl, hc, hm⟩ := hs.shape
  clear hs0
  go_wp2
  go_loopw [3, 10] (fun o i wr => ∃ (k : Nat) (ov : Value), ov = o ∧ k ≤ l.length ∧ i = .int .i64 k ∧ OSls wr w.heap.size ov (padAll l k) ∧ Below w.heap.size w wr) (fun _ i _ => l.length - (intOf i).toNat)
  case atStart => exact ⟨0, _, rfl, by omega, rfl, OSls.nil _ _, Below.refl _ _⟩
  case round =>
    obtain ⟨k, ov, rfl, hk, rfl, hO, hbr⟩ := hrel
    by_cases hlt : k < l.length
    · obtain ⟨b, off, rfl, hb, u, hu, hsu⟩ := hs.at hlt
      have hkI : (k : Int) < (l.length : Int) := by omega
      have hu : wr.cell? ⟨b, off + k, none⟩ = some u := by rw [hbr.cell (p := ⟨b, off + k, none⟩) hb]; exact hu
      have hsu := hsu.below hbr (Nat.le_refl _)
      obtain ⟨ua, uc, rfl, _, _⟩ := hsu.shape
      rw [List.length_map] at hsu hu
      have HSN := Lib.hid (padAll_succ l k hlt)
      have HPL := Lib.hid (padTo_len 4 (l.getD k []))
      generalize l.getD k [] = P at *
      have hbA : Below wr.heap.size wr (wr.alloc (.cells (Array.replicate 4 (Value.int .u8 0)) 5)) := (Below.refl _ _).alloc (Nat.le_refl _) _
      have kA := Blk.new wr 5 (Array.replicate 4 (Value.int .u8 0))
      have hsuA := hsu.below hbA (Nat.le_refl _)
      have HLN := Lib.hid (show (padAll l k).length + 1 ≤ 5000000000000 by rw [padAll_len]; omega)
      clear hsu
      go_wp2_with (with_reducible refine wpList_copy_pad rfl _ _ rfl wr.heap.size 4 4 rfl (.slice ua P.length uc) P rfl hsuA kA wr.heap.size wr hbA (Nat.le_refl _) ?_)
      intro w2 kk hk2 hb2
      have hy := Sl.ofBlk hk2.out 4 (by rw [List.length_map, HPL.out]) (by rw [List.length_map, HPL.out]; unfold maxLen; omega)
      have hO := hO.below hb2
      have hbr := hbr.trans (hb2.mono hbr.size)
      have hbB : Below w2.heap.size w2 (w2.alloc (.cells #[.slice (some ⟨wr.heap.size, 0, none⟩) 4 4] 22)) := (Below.refl _ _).alloc (Nat.le_refl _) _
      have hO := hO.below hbB
      have hy := hy.below hbB (Nat.le_refl _)
      have hbr := hbr.trans (hbB.mono hbr.size)
      have hc2 := (Blk.new w2 22 #[.slice (some ⟨wr.heap.size, 0, none⟩) 4 4]).cell 0
      clear hk2 hb2 kA hsuA hbA hu hbB
      go_wp2_with (at_builtin; refine wpList_append_text rfl _ _ rfl w.heap.size _ _ rfl hO w2.heap.size 1 rfl (.slice (some ⟨wr.heap.size, 0, none⟩) 4 4) hc2 _ hy HLN.out hbr.size ?_)
      intro l5 w5 hO5 hb5 hg5
      have hbr := hbr.trans hb5
      clear hg5 hb5 hO hy hc2
      go_wp2
      go_roundw
      case rel => exact ⟨k + 1, l5, rfl, by omega, by go_num, by rw [HSN.out]; exact hO5, hbr⟩
      case measure => simp [intOf]; omega
    · obtain rfl : k = l.length := by omega
      have hkI : ¬ (l.length : Int) < (l.length : Int) := by omega
      have he : padAll l l.length = padAll l 40 := by unfold padAll; rw [List.take_length, List.take_of_length_le hl40]
      have HE := Lib.hid he
      clear he
      go_wp2
      go_ret
      exact ⟨_, rfl, by rw [← HLE.out, ← HE.out]; exact hO, hbr⟩

theorem padAll_isB {l : List (List Int)} (h : ∀ p ∈ l, IsB p) (k : Nat) : ∀ p ∈ padAll l k, IsB p := fun p hp => by
  obtain ⟨q, hq, rfl⟩ := List.mem_map.1 hp
  exact padTo_isB (h q (List.mem_of_mem_take hq)) 4
theorem padAll_four (l : List (List Int)) (k : Nat) : ∀ p ∈ padAll l k, p.length = 4 := fun p hp => by
  obtain ⟨q, hq, rfl⟩ := List.mem_map.1 hp
  exact padTo_len 4 q

theorem hashT_four (tag : Int) (pss : List (List Int)) (h : codeT tag pss = 0) : (hashT 4 tag pss).length = 4 := by
  unfold hashT; rw [if_pos h, cutI_len]; rfl
theorem codeT_small {tag : Int} {pss : List (List Int)} (h0 : 0 ≤ tag) (h1 : tag ≤ 255) (h : ∀ p ∈ pss, p.length ≤ 65535) : codeT tag pss = 0 := by
  unfold codeT
  rw [if_neg (by omega), if_neg (fun ⟨p, hp, hl⟩ => by have := h p hp; omega)]
theorem rootI_four : ∀ (m : Nat) (l : List (List Int)), l.length ≤ m → (∀ p ∈ l, p.length = 4) → (rootI 4 l).length = 4 := by
  intro m
  induction m with
  | zero =>
    intro l hl h
    obtain rfl : l = [] := List.length_eq_zero_iff.1 (by omega)
    rw [rootI_zero]; exact hashT_four 0 [] (codeT_small (by omega) (by omega) (by simp))
  | succ m ih =>
    intro l hl h
    by_cases h2 : 2 ≤ l.length
    · have k1 := half_lt l.length h2
      have k2 := half_pos l.length
      rw [rootI_two 4 l h2]
      refine hashT_four 4 _ (codeT_small (by omega) (by omega) fun p hp => ?_)
      simp only [List.mem_cons, List.not_mem_nil, or_false] at hp
      rcases hp with rfl | rfl
      · rw [ih _ (by rw [List.length_take]; omega) (fun p hp => h p (List.mem_of_mem_take hp))]; omega
      · rw [ih _ (by rw [List.length_drop]; omega) (fun p hp => h p (List.mem_of_mem_drop hp))]; omega
    · match l, h, h2 with
      | [], _, _ => rw [rootI_zero]; exact hashT_four 0 [] (codeT_small (by omega) (by omega) (by simp))
      | [p], h, _ => rw [rootI_one]; exact h p (by simp)
      | _ :: _ :: _, _, h2 => simp at h2

theorem back_fold (L : List (List Int)) (h4 : ∀ p ∈ L, p.length = 4) (hN : L.length ≤ 40) (fr te : Nat) (h1 : fr ≤ te) (h2 : te ≤ L.length) :
    ((L.drop fr).take (te - fr)).length = te - fr ∧ (partsI 4 L (outs fr te 0 L.length)).length = (outs fr te 0 L.length).length ∧
    (¬ ∃ p ∈ (L.drop fr).take (te - fr), ¬ (p.length : Int) = ((4 : Nat) : Int)) ∧ (¬ ∃ p ∈ partsI 4 L (outs fr te 0 L.length), ¬ (p.length : Int) = ((4 : Nat) : Int)) ∧
    (0 < L.length → enough fr te (0 : Nat) L.length (4 : Nat) ((L.drop fr).take (te - fr)) (partsI 4 L (outs fr te 0 L.length))) ∧
    (0 < L.length → (foldI (4 : Nat) fr te (0 : Nat) L.length ((L.drop fr).take (te - fr)) (partsI 4 L (outs fr te 0 L.length))).1 = rootI 4 L) := by
  have ho := ovl_all L fr te h1 L.length (Nat.le_refl _)
  rw [List.take_length] at ho
  have hd : (L.take te).drop fr = (L.drop fr).take (te - fr) := List.drop_take
  rw [hd] at ho
  refine ⟨by rw [List.length_take, List.length_drop]; omega, by simp [partsI], ?_, ?_, fun hp => ?_, fun hp => ?_⟩
  · rintro ⟨p, hp, hne⟩
    exact hne (by rw [h4 p (List.mem_of_mem_drop (List.mem_of_mem_take hp))])
  · rintro ⟨p, hp, hne⟩
    unfold partsI at hp
    obtain ⟨q, _, rfl⟩ := List.mem_map.1 hp
    exact hne (by rw [rootI_four _ _ (Nat.le_refl _) (fun p hp => h4 p (List.mem_of_mem_drop (List.mem_of_mem_take hp)))])
  · have := (fold_parts 4 L fr te L.length L.length (Nat.le_refl _) hp 0 [] [] (by omega)).1
    rw [List.append_nil, List.append_nil, ho] at this
    exact this
  · have := (fold_parts 4 L fr te L.length L.length (Nat.le_refl _) hp 0 [] [] (by omega)).2
    rw [List.append_nil, List.append_nil, ho, List.drop_zero, List.take_length] at this
    rw [show foldI ((4 : Nat) : Int) fr te ((0 : Nat) : Int) L.length ((L.drop fr).take (te - fr)) (partsI 4 L (outs fr te 0 L.length)) = (rootI 4 L, [], []) from this]

theorem few40_isB {l : List (List Int)} (h : ∀ p ∈ l, IsB p) : ∀ p ∈ padAll (l.take 40) 40, IsB p := padAll_isB (fun p hp => h p (List.mem_of_mem_take hp)) 40

end Go.Proofs.YtkabinicmdcbpaaDoor
