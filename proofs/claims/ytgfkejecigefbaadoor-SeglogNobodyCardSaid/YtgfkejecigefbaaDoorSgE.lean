
/- A log: where it lies; put. Conditions: none. -/
import Derived.Test.YtgfkejecigefbaaDoorSgD
import Derived.Test.YtgfkejecigefbaaDoorDvF
namespace Go.Proofs.YtgfkejecigefbaaDoor
open Go.RowKit
set_option linter.unusedVariables false

/-- A slice of texts in blocks of bytes, in a block of slices. -/
def TBr (w : World) (v : Value) (pss : List (List Int)) : Prop :=
  ∃ b o c us, v = .slice (some ⟨b, o, none⟩) pss.length c ∧ pss.length ≤ c ∧ c ≤ maxLen ∧ (∃ cur, Blk w b 26 cur) ∧ (∀ j u, us[j]? = some u → w.cell? ⟨b, o + j, none⟩ = some u) ∧ TBAll w 0 us pss
theorem TBr.only {ds : List Nat} {w w' : World} {v : Value} {pss : List (List Int)} (h : TBr w v pss) (ho : Only ds w w') (hd : ∀ g ∈ ds, ∀ cur, ¬ Blk w g 5 cur ∧ ¬ Blk w g 26 cur) : TBr w' v pss := by
  obtain ⟨b, o, c, us, rfl, h1, h2, ⟨cur, k⟩, h4, h5⟩ := h
  have hn : b ∉ ds := fun hm => (hd b hm cur).2 k
  exact ⟨b, o, c, us, rfl, h1, h2, ⟨cur, ho.blk k hn⟩, fun j u hu => (ho.cell (p := ⟨b, o + j, none⟩) k.lt hn).trans (h4 j u hu), h5.mono fun u p q => q.only ho fun g hg cur => (hd g hg cur).1⟩
theorem TBr.below {w w' : World} {v : Value} {pss : List (List Int)} (h : TBr w v pss) (hb : Below w.heap.size w w') : TBr w' v pss := h.only (Only.of_below [] hb) (by simp)
theorem TBAll.at {w : World} {base : Nat} : ∀ {us : List Value} {ps : List (List Int)}, TBAll w base us ps → ∀ (i : Nat) (u : Value) (p : List Int), us[i]? = some u → ps[i]? = some p → TB w base u p
  | [], [], _, i, u, p, hu, _ => by simp at hu
  | [], _ :: _, h, _, _, _, _, _ => h.elim
  | _ :: _, [], h, _, _, _, _, _ => h.elim
  | _ :: _, _ :: _, h, 0, u, p, hu, hp => by simp at hu hp; subst hu hp; exact h.1
  | _ :: _, _ :: _, h, i + 1, u, p, hu, hp => by simp at hu hp; exact TBAll.at h.2 i u p hu hp
theorem TBr.at {w : World} {b o n c : Nat} {pss : List (List Int)} (h : TBr w (.slice (some ⟨b, o, none⟩) n c) pss) {k : Nat} {p : List Int} (hk : pss[k]? = some p) : ∃ u, w.cell? ⟨b, o + k, none⟩ = some u ∧ TB w 0 u p := by
  obtain ⟨b, o, c, us, e, h1, h2, _, h4, h5⟩ := h
  cases e
  have hl : k < us.length := by rw [h5.len]; exact (List.getElem?_eq_some_iff.1 hk).1
  exact ⟨us[k], h4 k _ (List.getElem?_eq_getElem hl), h5.at k _ _ (List.getElem?_eq_getElem hl) hk⟩
theorem TBs.tbr {w : World} {base : Nat} {v : Value} {pss : List (List Int)} (h : TBs w base v pss) (hp : 0 < pss.length) : TBr w v pss := by
  have hb := fun g (hg : v.ownBlock = some g) => h.blk hg
  obtain ⟨vs, h1, h2⟩ := h
  have hsl := Sl.of_owns h1
  obtain ⟨g, cap, rfl, _, hlt⟩ := h1.form hp
  obtain ⟨a', c', e, q1, q2, q3⟩ := hsl
  rw [h2.len] at e q1 q3
  cases e
  obtain ⟨b, off, e, _, hc⟩ := q3 hp
  cases e
  exact ⟨_, _, _, vs, rfl, q1, q2, hb _ rfl, hc, h2.mono fun u p q => q.base (Nat.zero_le _)⟩
theorem TBAll.take {w : World} {base : Nat} : ∀ {us : List Value} {ps : List (List Int)} (k : Nat), TBAll w base us ps → TBAll w base (us.take k) (ps.take k)
  | [], [], k, _ => by simp [TBAll]
  | [], _ :: _, _, h => h.elim
  | _ :: _, [], _, h => h.elim
  | _ :: _, _ :: _, 0, _ => by simp [TBAll]
  | _ :: _, _ :: _, k + 1, h => ⟨h.1, TBAll.take k h.2⟩
theorem TBr.take {w : World} {b o n c : Nat} {pss : List (List Int)} (h : TBr w (.slice (some ⟨b, o, none⟩) n c) pss) (k : Nat) (hk : k ≤ pss.length) : TBr w (.slice (some ⟨b, o, none⟩) k c) (pss.take k) := by
  obtain ⟨b, o, c, us, e, h1, h2, h3, h4, h5⟩ := h
  cases e
  have hl : (pss.take k).length = k := by rw [List.length_take]; omega
  refine ⟨b, o, c, us.take k, by rw [hl], by rw [hl]; omega, h2, h3, fun j u hu => h4 j u ?_, h5.take k⟩
  rw [List.getElem?_take] at hu
  split at hu
  · exact hu
  · cases hu
theorem TB.off {w : World} {base : Nat} {u : Value} {p : List Int} (h : TB w base u p) {g b : Nat} {d : DSt} (hd : Dev w g b d) : ∀ o n c, 0 < n → u ≠ .slice (some ⟨b, o, none⟩) n c := by
  intro o n c _ e
  obtain ⟨b', o', c', rfl, _, _, _, ⟨cur, k⟩, _⟩ := h
  obtain ⟨cur2, k2⟩ := hd.row.typ
  cases e
  exact Blk.ne_ k k2 (by decide) rfl
theorem Dev.noText {w : World} {g b : Nat} {d : DSt} (h : Dev w g b d) : ∀ k ∈ [g, b], ∀ cur, ¬ Blk w k 5 cur ∧ ¬ Blk w k 26 cur := by
  obtain ⟨cap, _, _, k1⟩ := h.blk
  obtain ⟨c2, k2⟩ := h.row.typ
  intro k hk cur
  simp only [List.mem_cons, List.not_mem_nil, or_false] at hk
  rcases hk with rfl | rfl
  · exact ⟨fun e => Blk.ne_ e k1 (by decide) rfl, fun e => Blk.ne_ e k1 (by decide) rfl⟩
  · exact ⟨fun e => Blk.ne_ e k2 (by decide) rfl, fun e => Blk.ne_ e k2 (by decide) rfl⟩

/-- A log at q on the device at g (its sectors at b), its records' row v. -/
structure Lg (w : World) (q g b B : Nat) (v : Value) (s : LSt) (d : DSt) : Prop where
  blk : Blk w q 36 #[.pointer (some ⟨g, 0, none⟩), .int .i64 s.secs, .int .i64 s.fin, v, .bool s.stop]
  row : TBs w B v s.l
  dev : Dev w g b d
  secs : s.secs = d.l.length
  fin : s.fin ≤ s.secs
  cnt : s.l.length ≤ s.fin
  isB : ∀ p ∈ s.l, IsB p
  short : ∀ p ∈ s.l, 1 ≤ p.length ∧ p.length ≤ 4000
  base : B ≤ w.heap.size

theorem Lg.val {w : World} {q g b B : Nat} {v : Value} {s : LSt} {d : DSt} (h : Lg w q g b B v s d) : ∃ a c, v = .slice a s.l.length c := h.row.val
theorem Lg.apart {w : World} {q g b B : Nat} {v : Value} {s : LSt} {d : DSt} (h : Lg w q g b B v s d) : q ≠ g ∧ q ≠ b := by
  obtain ⟨cap, _, _, k1⟩ := h.dev.blk
  obtain ⟨c2, k2⟩ := h.dev.row.typ
  exact ⟨Blk.ne_ h.blk k1 (by decide), Blk.ne_ h.blk k2 (by decide)⟩
theorem Lg.only {w w' : World} {q g b B : Nat} {v : Value} {s : LSt} {d : DSt} {ds : List Nat} (h : Lg w q g b B v s d) (ho : Only ds w w') (hd : ∀ k ∈ ds, ∀ cur, ¬ Blk w k 5 cur) (hv : ∀ k, v.ownBlock = some k → k ∉ ds) (hq : q ∉ ds) (hg : g ∉ ds) (hb : b ∉ ds) : Lg w' q g b B v s d :=
  ⟨ho.blk h.blk hq, h.row.only ho hd hv, h.dev.only ho hg hb, h.secs, h.fin, h.cnt, h.isB, h.short, Nat.le_trans h.base ho.size⟩
theorem Lg.below {w w' : World} {q g b B : Nat} {v : Value} {s : LSt} {d : DSt} (h : Lg w q g b B v s d) (hb : Below w.heap.size w w') : Lg w' q g b B v s d := h.only (Only.of_below [] hb) (by simp) (by simp) (by simp) (by simp) (by simp)
/-- Only the device has turned. -/
theorem Lg.devOnly {w w' : World} {q g b B : Nat} {v : Value} {s : LSt} {d d' : DSt} (h : Lg w q g b B v s d) (ho : Only [g, b] w w') (hd : Dev w' g b d') (hl : d'.l.length = d.l.length) : Lg w' q g b B v s d' := by
  have hn := h.dev.noText
  refine ⟨ho.blk h.blk (by simp; exact h.apart), h.row.only ho (fun k hk cur => (hn k hk cur).1) (fun k hk hm => ?_), hd, h.secs.trans hl.symm, h.fin, h.cnt, h.isB, h.short, Nat.le_trans h.base ho.size⟩
  obtain ⟨cur, kk⟩ := h.row.blk hk
  exact (hn k hm cur).2 kk

theorem wrote_len (d : DSt) (i : Int) (bs : List Int) : (d.wrote i bs).l.length = d.l.length := by
  unfold DSt.wrote
  split
  · split
    · rw [chg_l]
    · simp
  · rfl
theorem synced_len (d : DSt) : d.synced.l.length = d.l.length := by
  unfold DSt.synced
  split
  · rw [chg_l]
  · simp
theorem putW_len : ∀ (ss : List (List Int)) (i : Nat) (d : DSt), (putW ss i d).1.l.length = d.l.length
  | [], i, d => synced_len d
  | s :: r, i, d => by
    rw [putW]
    split
    · rw [putW_len r, wrote_len]
    · exact wrote_len d _ _

set_option maxRecDepth 100000 in
set_option maxHeartbeats 1000000 in
theorem put_any (w : World) (q g b : Nat) (d : DSt) (at_ : Nat) (v : Value) (ss : List (List Int)) (hq : w.cell? ⟨q, 0, none⟩ = some (.pointer (some ⟨g, 0, none⟩))) (hql : q < w.heap.size) (hqg : q ≠ g ∧ q ≠ b) (h : Dev w g b d) (hv : TBr w v ss) (hB : ∀ p ∈ ss, IsB p) (hl : at_ + ss.length ≤ 1000000) :
    Calls Tryd.prog 36 #[.pointer (some ⟨q, 0, none⟩), .int .i64 at_, v] w fun e w' => e = .returned (.int .i64 (putW ss at_ d).2) ∧ Dev w' g b (putW ss at_ d).1 ∧ Only [g, b] w w' := by
  have HV := Lib.hid hv
  obtain ⟨vb, vo, vc, us, rfl, hvc, hvm, _⟩ := hv
  unfold maxLen at hvm
  have HQ := Lib.hid hq
  have HQG := Lib.hid hqg
  have HD := Lib.hid h
  have HBB := Lib.hid hB
  have HN := Lib.hid h.noText
  have hl1 : at_ ≤ 1000000 := by omega
  have hl2 : ss.length ≤ 1000000 := by omega
  clear h hB hq hqg hl
  go_enter Tryd.func36, Tryd.ntmps36
  go_wp2
  go_loopw [12] (fun i wr => ∃ (k : Nat) (d' : DSt), k ≤ ss.length ∧ i = .int .i64 k ∧ Hid (putW ss at_ d = putW (ss.drop k) (at_ + k) d') ∧ Hid (Dev wr g b d') ∧ Hid (Only [g, b] w wr)) (fun i _ => ss.length - (intOf i).toNat)
  case atStart => exact ⟨0, d, by omega, rfl, Lib.hid rfl, HD, Lib.hid (Only.refl _ _)⟩
  case round =>
    obtain ⟨k, d', hk, rfl, hp, hD, hO⟩ := hrel
    have c0 : wr.cell? ⟨q, 0, none⟩ = some (.pointer (some ⟨g, 0, none⟩)) := (hO.out.cell (p := ⟨q, 0, none⟩) hql (by simp; exact HQG.out)).trans HQ.out
    by_cases hlt : k < ss.length
    · have hkI : (k : Int) < (ss.length : Int) := by omega
      have hVr := HV.out.only hO.out HN.out
      obtain ⟨u, cu, hu⟩ := hVr.at (List.getElem?_eq_getElem hlt)
      have HBk := Lib.hid (HBB.out _ (List.getElem_mem hlt))
      have HDR := Lib.hid (show ss.drop k = ss[k] :: ss.drop (k + 1) from List.drop_eq_getElem_cons hlt)
      have HW := Lib.hid (dwrite_any wr g b d' ((at_ + k : Nat) : Int) u ss[k] hD.out HBk.out hu.sl (hu.off hD.out))
      have hcast : ((at_ + k : Nat) : Int) = (at_ : Int) + (k : Int) := by omega
      rw [hcast] at HW
      have HCA := Lib.hid hcast
      clear hcast
      generalize ss[k] = sk at *
      obtain ⟨ua, un, uc, rfl⟩ := hu.sl.val
      clear hu hVr
      go_wp2_with fail
      refine HW.out.mono ?_
      rintro e w2 ⟨rfl, hD2, hO2⟩
      have HO2 := Lib.hid (hO.out.trans hO2)
      have HD2 := Lib.hid hD2
      rw [← HCA.out] at *
      by_cases he : d'.wrE ((at_ + k : Nat) : Int) sk = 0
      · have HP := Lib.hid (show putW ss at_ d = putW (ss.drop (k + 1)) (at_ + (k + 1)) (d'.wrote ((at_ + k : Nat) : Int) sk) from by
          rw [hp.out, HDR.out, putW, if_pos he]; rfl)
        clear hp hD2 hO2 HW
        rw [he]
        go_wp2
        go_roundw
        case rel => exact ⟨k + 1, _, hlt, by go_num, HP, HD2, HO2⟩
        case measure => simp [intOf]; omega
      · have heb : (d'.wrE ((at_ + k : Nat) : Int) sk == 0) = false := by rw [beq_eq_false_iff_ne]; exact he
        have HP := Lib.hid (show putW ss at_ d = (d'.wrote ((at_ + k : Nat) : Int) sk, d'.wrE ((at_ + k : Nat) : Int) sk) from by
          rw [hp.out, HDR.out, putW, if_neg he])
        clear hp hD2 hO2 HW
        generalize d'.wrE ((at_ + k : Nat) : Int) sk = er at *
        go_wp2
        go_ret
        exact ⟨by rw [HP.out]; rfl, by rw [HP.out]; exact HD2.out, HO2.out⟩
    · obtain rfl : k = ss.length := by omega
      have hkI : ¬ (ss.length : Int) < (ss.length : Int) := by omega
      have HS := Lib.hid (dsync_any wr g b d' hD.out)
      have HP := Lib.hid (show putW ss at_ d = (d'.synced, d'.chgE) from by rw [hp.out, List.drop_length]; rfl)
      clear hp
      go_wp2_with fail
      refine HS.out.mono ?_
      rintro e w2 ⟨rfl, hD2, hO2⟩
      have HD2 := Lib.hid hD2
      have HO2 := Lib.hid (hO.out.trans hO2)
      clear hD2 hO2 HS
      go_wp2
      go_ret
      exact ⟨by rw [HP.out]; rfl, by rw [HP.out]; exact HD2.out, HO2.out⟩

end Go.Proofs.YtgfkejecigefbaaDoor
