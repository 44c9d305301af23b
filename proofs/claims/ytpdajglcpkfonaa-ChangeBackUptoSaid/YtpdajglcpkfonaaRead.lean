/- The walk of change.Read. -/
import Derived.Test.YtpdajglcpkfonaaPairs
import Derived.Test.YtpdajglcpkfonaaReaderB
namespace Go.Proofs.Ytpdajglcpkfonaa
open Go.RowKit
set_option linter.unusedVariables false

theorem info8x : (Try.prog.info? 5).map (fun i => (i.zero, i.size, i.bytes)) = some (some (.int .u8 0), 1, 1) := by kernel_rfl
theorem infoBd : (Try.prog.info? 74).map (fun i => (i.zero, i.size, i.bytes)) = some (some (.agg #[.slice none 0 0, .slice none 0 0]), 2, 48) := by kernel_rfl

theorem made_pairs (n : Nat) : madeCells (Value.agg #[.slice none 0 0, .slice none 0 0]).cells (n * 2) = (flat2 (List.replicate n (.slice none 0 0, .slice none 0 0))).toArray := by
  have hz : (Value.agg #[.slice none 0 0, .slice none 0 0]).cells = #[.slice none 0 0, .slice none 0 0] := by simp [Value.cells]
  rw [hz]
  apply Array.ext
  · rw [size_madeCells, List.size_toArray, flat2_len, List.length_replicate]
  · intro i h1 h2
    have hi : i < n * 2 := by rw [size_madeCells] at h1; exact h1
    have e1 : (madeCells #[Value.slice none 0 0, .slice none 0 0] (n * 2))[i] = .slice none 0 0 := by
      simp only [madeCells, Array.getElem_map, Array.getElem_range]
      have : i % (#[Value.slice none 0 0, Value.slice none 0 0] : Array Value).size < 2 := Nat.mod_lt _ (by decide)
      rcases Nat.lt_or_ge (i % (#[Value.slice none 0 0, Value.slice none 0 0] : Array Value).size) 1 with h | h
      · rw [show i % (#[Value.slice none 0 0, Value.slice none 0 0] : Array Value).size = 0 by omega]; rfl
      · rw [show i % (#[Value.slice none 0 0, Value.slice none 0 0] : Array Value).size = 1 by omega]; rfl
    rw [e1]
    have e2 : (flat2 (List.replicate n (Value.slice none 0 0, Value.slice none 0 0)))[i]'(by simpa using h2) ∈ flat2 (List.replicate n (Value.slice none 0 0, Value.slice none 0 0)) := List.getElem_mem _
    obtain ⟨u, hu, hc⟩ := List.mem_flatMap.1 e2
    rw [List.eq_of_mem_replicate hu] at hc
    simp only [List.mem_cons, List.not_mem_nil, or_false, or_self] at hc
    simp only [List.getElem_toArray]
    exact hc.symm

theorem PRd.nils (w : World) : ∀ n, PRd w (List.replicate n (.slice none 0 0, .slice none 0 0)) (List.replicate n ([], []))
  | 0 => trivial
  | n + 1 => ⟨⟨Sl.nil w, Sl.nil w⟩, PRd.nils w n⟩

theorem run_make_bd (n : Nat) (hn : n ≤ 1000000) (w : World) :
    (Instr.makeSlice 50 (.int .i64 n) (.int .i64 n)).run Try.prog w = .ok (.slice (some ⟨w.heap.size, 0, none⟩) n n) (w.alloc (.cells (flat2 (List.replicate n (.slice none 0 0, .slice none 0 0))).toArray 74)) := by
  obtain ⟨i0, hi, hz0, hz1, hz2⟩ := info_parts infoBd
  have h := run_make (P := Try.prog) w 50 74 i0 _ Try.underlying50 hi hz0 .i64 .i64 n n (by omega) (Int.le_refl _) (by rw [hz2]; omega) (by omega)
  rw [h, hz1, Int.toNat_natCast, made_pairs]

theorem acc_set (l : List Chg) (n k : Nat) (hl : l.length = k) (hk : k < n) (p q : Chg) : (l ++ p :: List.replicate (n - (k + 1)) ([], [])).set k q = (l ++ [q]) ++ List.replicate (n - (k + 1)) ([], []) := by
  subst hl
  rw [List.set_append_right _ _ (Nat.le_refl _), Nat.sub_self, List.set_cons_zero, List.append_assoc]; rfl
theorem acc_open (l : List Chg) (n k : Nat) (hl : l.length = k) (hk : k < n) : l ++ List.replicate (n - k) (([], []) : Chg) = l ++ ([], []) :: List.replicate (n - (k + 1)) ([], []) := by
  rw [show n - k = (n - (k + 1)) + 1 by omega, List.replicate_succ]

/-- What a text off the reader leaves of the rest. -/
theorem rd_read {w w5 : World} {g gl : Nat} {t : TypeId} {S S' : List Int} {e e' : Int} {vs : List (Value × Value)} {ps : List Chg} (hk : Blk w gl t (flat2 vs).toArray) (hp : PRd w vs ps) (hr : Rd w g S e) (hne : gl ≠ g) (h : RdAt w w5 g S' e') :
    Blk w5 gl t (flat2 vs).toArray ∧ PRd w5 vs ps := by
  obtain ⟨v, h1, h2⟩ := hr
  exact ⟨hk.grown h.2 (by intro q; cases q; exact hne rfl), hp.mono fun u zs hu => hu.keepG h1 (rd_noB v h2.val e) h.2⟩

/-- What a store into the row leaves of the rest. -/
theorem rd_store {w : World} {g gl : Nat} {t : TypeId} {S : List Int} {e : Int} {vs : List (Value × Value)} {ps : List Chg} (hk : Blk w gl t (flat2 vs).toArray) (hp : PRd w vs ps) (hr : Rd w g S e) (hne : gl ≠ g) (i : Nat) (x : Value) :
    Blk (w.setCell ⟨gl, i, none⟩ x) gl t ((flat2 vs).set i x).toArray ∧ PRd (w.setCell ⟨gl, i, none⟩ x) vs ps ∧ Rd (w.setCell ⟨gl, i, none⟩ x) g S e ∧ ∀ (u : Value) (zs : List Int), Sl w u (zs.map (Value.int .u8)) → Sl (w.setCell ⟨gl, i, none⟩ x) u (zs.map (Value.int .u8)) := by
  have hg1 : w.grownBy (w.setCell ⟨gl, i, none⟩ x) (some gl) := only_setCell (p := ⟨gl, i, none⟩) (World.grownBy.refl w (some gl)) (Or.inl rfl) x
  have hall : ∀ (u : Value) (zs : List Int), Sl w u (zs.map (Value.int .u8)) → Sl (w.setCell ⟨gl, i, none⟩ x) u (zs.map (Value.int .u8)) := fun u zs hu => hu.keepG hk hp.noB hg1
  obtain ⟨v, h1, h2⟩ := hr
  refine ⟨?_, hp.mono hall, ⟨v, h1.far (p := ⟨gl, i, none⟩) (fun q => hne q.symm) x, hall _ _ h2⟩, hall⟩
  have := hk.set_ i x
  rwa [List.setIfInBounds_toArray] at this

set_option maxRecDepth 100000 in
set_option maxHeartbeats 4000000 in
theorem cread_any (p0 p1 p2 p3 p4 p5 p6 p7 : Int) (v : Value) (bs : List Int) (w : World) (hl : bs.length ≤ 100000000) (hB : IsB bs) (hs : Sl w v (bs.map (Value.int .u8))) :
    Calls Try.prog 26 #[.agg #[.int .i64 p0, .int .i64 p1, .int .i64 p2, .int .i64 p3, .int .i64 p4, .int .i64 p5, .int .i64 p6, .int .i64 p7], v] w fun e w' =>
      ∃ l r, e = .returned (.tuple #[l, r, .int .i64 (readS p2 p3 bs).2.2]) ∧ Bds w' l (readS p2 p3 bs).1 ∧ Sl w' r ((readS p2 p3 bs).2.1.map (Value.int .u8)) ∧ Below w.heap.size w w' := by
  obtain ⟨a, cap, rfl, hc, hm⟩ := hs.shape
  rw [List.length_map] at *
  have hb1 : Below w.heap.size w (w.alloc (.cells #[.int .i64 p0, .int .i64 p1, .int .i64 p2, .int .i64 p3, .int .i64 p4, .int .i64 p5, .int .i64 p6, .int .i64 p7] 49)) := (Below.refl _ _).alloc (Nat.le_refl _) _
  have kP := Blk.new w 49 #[.int .i64 p0, .int .i64 p1, .int .i64 p2, .int .i64 p3, .int .i64 p4, .int .i64 p5, .int .i64 p6, .int .i64 p7]
  have hs1 := hs.below hb1 (Nat.le_refl _)
  have hsz1 : (w.alloc (.cells #[.int .i64 p0, .int .i64 p1, .int .i64 p2, .int .i64 p3, .int .i64 p4, .int .i64 p5, .int .i64 p6, .int .i64 p7] 49)).heap.size = w.heap.size + 1 := by simp
  have HLL := Lib.hid hl
  have HB := Lib.hid hB
  have HSS := Lib.hid hs
  clear hs hl hB
  go_enter Try.func26, Try.ntmps26
  go_wp2_with fail
  generalize (w.alloc (.cells #[.int .i64 p0, .int .i64 p1, .int .i64 p2, .int .i64 p3, .int .i64 p4, .int .i64 p5, .int .i64 p6, .int .i64 p7] 49)) = w1 at *
  refine (copen_any _ bs w1 HLL.out hs1).mono ?_
  rintro e w2 ⟨g, rfl, hg, hr2, hb2⟩
  have kP := kP.belowS hb2
  have hs2 := hs1.below hb2 (Nat.le_refl _)
  have hbr := hb1.trans (hb2.mono hb1.size)
  have hgP : w.heap.size < g := by omega
  have HU := Lib.hid (cruint_any g bs 0 32 w2 HB.out HLL.out hr2)
  clear hs1 hb1 hb2 hsz1 hg hr2 hs2
  go_wp2_with fail
  refine HU.out.mono ?_
  rintro e w3 ⟨rfl, hr3, hg3⟩
  obtain ⟨N, hN⟩ : ∃ N : Nat, (uI 32 bs 0).1 = N := ⟨(uI 32 bs 0).1.toNat, by have := (uI_val 32 bs 0 HB.out).1; omega⟩
  have hN32 : N ≤ 32 := by have := uI32 bs HB.out; rw [hN] at this; simpa using this
  have HALL := Lib.hid (show rdAll p2 p3 bs = rdN p2 p3 N (rdStart bs) by unfold rdAll; rw [hN]; rfl)
  have HLF := Lib.hid (fun k => rdN_left p2 p3 k (rdStart bs) bs (uI_left 32 bs 0))
  have HLN := Lib.hid (fun k => rdN_len p2 p3 k (rdStart bs))
  have HR3 := Lib.hid (show Rd w3 g (rdStart bs).2.1 (rdStart bs).2.2 from hr3)
  rw [hN]
  have kP := kP.grown hg3 (by intro e; cases e; omega)
  have hbr := below_of_only hbr hg3 (by omega) hbr.size
  have hgl := hr3.choose_spec.1.lt
  have hmk := run_make_bd N (by omega)
  have kL := Blk.new w3 74 (flat2 (List.replicate N (.slice none 0 0, .slice none 0 0))).toArray
  have HPL := Lib.hid (PRd.nils (w3.alloc (.cells (flat2 (List.replicate N (.slice none 0 0, .slice none 0 0))).toArray 74)) N)
  have HR4 : Hid (Rd (w3.alloc (.cells (flat2 (List.replicate N (.slice none 0 0, .slice none 0 0))).toArray 74)) g (rdStart bs).2.1 (rdStart bs).2.2) := by
    obtain ⟨vv, h1, h2⟩ := HR3.out
    exact ⟨vv, h1.alloc _, h2.below ((Below.refl _ _).alloc (Nat.le_refl _) _) (Nat.le_refl _)⟩
  have kP4 := kP.alloc (.cells (flat2 (List.replicate N (.slice none 0 0, .slice none 0 0))).toArray 74)
  have hb4 := hbr.alloc hbr.size (.cells (flat2 (List.replicate N (.slice none 0 0, .slice none 0 0))).toArray 74)
  have hL0 : w.heap.size < w3.heap.size := by omega
  have hS0 : (rdStart bs).1 = [] := rfl
  generalize rdStart bs = S0 at *
  clear hr3 hg3 HU hN kP hbr HR3
  go_wp2
  generalize (w3.alloc (.cells (flat2 (List.replicate N (.slice none 0 0, .slice none 0 0))).toArray 74)) = w4 at *
  generalize w3.heap.size = gl at *
  go_loopw [18] (fun i wr => ∃ (k : Nat) (vs : List (Value × Value)), k ≤ N ∧ i = .int .i64 k ∧ Hid (vs.length = N) ∧ Hid (Blk wr gl 74 (flat2 vs).toArray) ∧ Hid (PRd wr vs ((rdN p2 p3 k S0).1 ++ List.replicate (N - k) ([], []))) ∧ Hid (Rd wr g (rdN p2 p3 k S0).2.1 (rdN p2 p3 k S0).2.2) ∧
    Hid (Blk wr w.heap.size 49 #[.int .i64 p0, .int .i64 p1, .int .i64 p2, .int .i64 p3, .int .i64 p4, .int .i64 p5, .int .i64 p6, .int .i64 p7]) ∧ Below w.heap.size w wr) (fun i _ => N - (intOf i).toNat)
  case atStart => exact ⟨0, List.replicate N (.slice none 0 0, .slice none 0 0), by omega, rfl, Lib.hid (by simp), kL, Lib.hid (by rw [show (rdN p2 p3 0 S0).1 = [] from hS0, List.nil_append, Nat.sub_zero]; exact HPL), HR4, kP4, hb4⟩
  case round =>
    obtain ⟨k, vs, hk, rfl, hvl, hkl, hpr, hrd, hkp, hbr⟩ := hrel
    by_cases hlt : k < N
    · have hkI : (k : Int) < (N : Int) := by omega
      have hlen := HLN.out k
      rw [hS0, List.length_nil, Nat.zero_add] at hlen
      have HST := Lib.hid (show rdN p2 p3 (k + 1) S0 = rdStep p2 p3 (rdN p2 p3 k S0) from rfl)
      have HSB := Lib.hid (suf_isB (HLF.out k) HB.out)
      have HSL := Lib.hid (show (rdN p2 p3 k S0).2.1.length ≤ 100000000 from Nat.le_trans (suf_len (HLF.out k)) HLL.out)
      generalize rdN p2 p3 k S0 = S at *
      obtain ⟨acc, rb, re⟩ := S
      simp only at hlen HST HSB HSL hpr hrd
      have HLEN := Lib.hid hlen
      have HOP := Lib.hid (acc_open acc N k hlen hlt)
      rw [HOP.out] at hpr
      have hne : gl ≠ g := hkl.out.ne_ hrd.out.choose_spec.1 (by decide)
      have hneP : w.heap.size ≠ g := by omega
      obtain ⟨u, hu⟩ : ∃ u, vs[k]? = some u := ⟨_, List.getElem?_eq_getElem (by rw [hvl.out]; exact hlt)⟩
      have HC1 := Lib.hid (crbytes_any g rb re p2 wr HSB.out HSL.out hrd.out)
      have q2 : wr.cell? ⟨w.heap.size, 2, none⟩ = some (.int .i64 p2) := hkp.out.cell 2
      clear hlen
      go_wp2_with fail
      refine HC1.out.mono ?_
      rintro e w5 ⟨x, rfl, hx, hr5⟩
      obtain ⟨kl5, hp5⟩ := rd_read hkl.out hpr.out hrd.out hne hr5
      have kP5 := hkp.out.grown hr5.2 (by intro e; cases e; exact hneP rfl)
      have hbr5 := below_of_only hbr hr5.2 (by omega) hbr.size
      obtain ⟨xa, xn, xc, rfl⟩ := hx.val
      obtain ⟨hA1, hA2, hA3, hA4⟩ := rd_store kl5 hp5 hr5.1 hne (k * 2) (.slice xa xn xc)
      rw [flat2_set1 vs k u _ hu] at hA1
      have hA2 := hA2.set (u := (Value.slice xa xn xc, u.2)) (p := ((bI p2 rb re).1, [])) ⟨hA4 _ _ hx, (hA2.at k u ([], []) hu (by rw [List.getElem?_append_right (by rw [HLEN.out]; exact Nat.le_refl _), HLEN.out, Nat.sub_self]; rfl)).2⟩ k
      have hb6 := hbr5.setCell (p := ⟨gl, k * 2, none⟩) (by show w.heap.size ≤ gl; omega) (.slice xa xn xc)
      have kP6 := kP5.far (p := ⟨gl, k * 2, none⟩) (show w.heap.size ≠ gl by omega) (.slice xa xn xc)
      have q3 : (w5.setCell ⟨gl, k * 2, none⟩ (.slice xa xn xc)).cell? ⟨w.heap.size, 3, none⟩ = some (.int .i64 p3) := kP6.cell 3
      have c5 : w5.cell? ⟨gl, k * 2, none⟩ = some u.1 := by rw [kl5.cell]; simpa using (flat2_get vs k u hu).1
      have f5 := kl5.frozen (k * 2)
      have hlt2 : k < (vs.set k (Value.slice xa xn xc, u.2)).length := by rw [List.length_set, hvl.out]; exact hlt
      clear q2 kl5 hp5 kP5 hbr5 hr5 hkl hpr hrd hkp hbr hx
      rw [show (acc ++ (([], []) : Chg) :: List.replicate (N - (k + 1)) ([], [])).set k ((bI p2 rb re).1, []) = acc ++ ((bI p2 rb re).1, []) :: List.replicate (N - (k + 1)) ([], []) by rw [acc_set acc N k HLEN.out hlt, List.append_assoc]; rfl] at hA2
      have HSB2 := Lib.hid (suf_isB (bI_left p2 rb re) HSB.out)
      have HSL2 := Lib.hid (Nat.le_trans (suf_len (bI_left p2 rb re)) HSL.out)
      generalize hB1 : bI p2 rb re = B1 at *
      have HB1 := Lib.hid hB1
      clear hB1
      obtain ⟨x', rb1, re1⟩ := B1
      go_wp2_with fail
      generalize w5.setCell ⟨gl, k * 2, none⟩ (.slice xa xn xc) = w6 at *
      have hu1 : (vs.set k (Value.slice xa xn xc, u.2))[k]? = some (Value.slice xa xn xc, u.2) := List.getElem?_set_self (by rw [hvl.out]; exact hlt)
      have HVL := Lib.hid (show (vs.set k (Value.slice xa xn xc, u.2)).length = N by rw [List.length_set]; exact hvl.out)
      have hset : ∀ q, (vs.set k (Value.slice xa xn xc, u.2)).set k q = vs.set k q := fun q => List.set_set ..
      have HSET := Lib.hid hset
      clear hset
      generalize vs.set k (Value.slice xa xn xc, u.2) = vs1 at *
      have HC2 := Lib.hid (crbytes_any g rb1 re1 p3 w6 HSB2.out HSL2.out hA3)
      clear c5 f5
      refine HC2.out.mono ?_
      rintro e w7 ⟨y, rfl, hy, hr7⟩
      obtain ⟨kl7, hp7⟩ := rd_read hA1 hA2 hA3 hne hr7
      have kP7 := kP6.grown hr7.2 (by intro e; cases e; exact hneP rfl)
      have hbr7 := below_of_only hb6 hr7.2 (by omega) hb6.size
      obtain ⟨ya, yn, yc, rfl⟩ := hy.val
      obtain ⟨hD1, hD2, hD3, hD4⟩ := rd_store kl7 hp7 hr7.1 hne (k * 2 + 1) (.slice ya yn yc)
      rw [flat2_set2 vs1 k _ _ hu1] at hD1
      have hD2 := hD2.set (u := (Value.slice xa xn xc, Value.slice ya yn yc)) (p := (x', (bI p3 rb1 re1).1)) ⟨(hD2.at k _ (x', []) hu1 (by rw [List.getElem?_append_right (by rw [HLEN.out]; exact Nat.le_refl _), HLEN.out, Nat.sub_self]; rfl)).1, hD4 _ _ hy⟩ k
      rw [acc_set acc N k HLEN.out hlt] at hD2
      have hb8 := hbr7.setCell (p := ⟨gl, k * 2 + 1, none⟩) (by show w.heap.size ≤ gl; omega) (.slice ya yn yc)
      have kP8 := kP7.far (p := ⟨gl, k * 2 + 1, none⟩) (show w.heap.size ≠ gl by omega) (.slice ya yn yc)
      have c7 : w7.cell? ⟨gl, k * 2 + 1, none⟩ = some u.2 := by rw [kl7.cell]; simpa using (flat2_get vs1 k _ hu1).2
      have f7 := kl7.frozen (k * 2 + 1)
      have HD1 := Lib.hid hD1
      have HD2 := Lib.hid hD2
      have HD3 := Lib.hid hD3
      have HKP := Lib.hid kP8
      have HBB := Lib.hid hb8
      have HSTP : Hid (rdN p2 p3 (k + 1) S0 = (acc ++ [(x', (bI p3 rb1 re1).1)], (bI p3 rb1 re1).2.1, (bI p3 rb1 re1).2.2)) := by
        show rdN p2 p3 (k + 1) S0 = _
        rw [HST.out]; unfold rdStep; simp only [HB1.out]
      clear kl7 hp7 kP7 hbr7 hr7 hD1 hD2 hD3 hD4 hb8 kP8 hA1 hA2 hA3 hA4 hb6 kP6 q3 hy
      go_wp2
      refine ⟨⟨k + 1, _, by omega, by go_num, ?_, HD1.out, ?_, ?_, HKP, HBB.out⟩, by simp [intOf]; omega⟩
      · show _ = _
        rw [List.length_set]; exact HVL.out
      · rw [HSTP.out]; exact HD2
      · rw [HSTP.out]; exact HD3
    · obtain rfl : k = N := by omega
      have hkI : ¬ (k : Int) < (k : Int) := by omega
      have HE := Lib.hid (crerr_any g _ _ wr hrd.out)
      have HLL2 := Lib.hid (crleft_any g _ _ wr hrd.out)
      have HSUF := Lib.hid (HLF.out k)
      rw [← HALL.out] at HE HLL2 HSUF hpr hrd
      have HLE := Lib.hid (show (rdAll p2 p3 bs).1.length = k by rw [HALL.out, HLN.out k, hS0]; simp)
      have HRS : Hid (readS p2 p3 bs = if (rdAll p2 p3 bs).2.2 = 0 then rdAll p2 p3 bs else ([], [], (rdAll p2 p3 bs).2.2)) := rfl
      generalize rdAll p2 p3 bs = A at *
      obtain ⟨acc, rest, er⟩ := A
      simp only at HE HLL2 HSUF hpr HLE HRS hrd
      by_cases he : er = 0
      · subst he
        rw [if_pos rfl] at HRS
        have hlr := suf_len HSUF.out
        obtain ⟨D, hD⟩ : ∃ D : Nat, (bs.length : Int) - (rest.length : Int) = D := ⟨bs.length - rest.length, by omega⟩
        have HDR : Hid (bs.drop D = rest) := by
          have hDn : D = bs.length - rest.length := by omega
          rcases HSUF.out with h | h
          · subst h; show _ = _; rw [List.drop_eq_nil_of_le (by simp at hDn; omega)]
          · obtain ⟨pre, rfl⟩ := h
            show _ = _
            rw [hDn, List.length_append, Nat.add_sub_cancel, List.drop_left]
        have HDL := Lib.hid (show D ≤ bs.length by omega)
        have hsr := HSS.out.below hbr (Nat.le_refl _)
        have hb0 : Below wr.heap.size wr (wr.alloc (.cells #[] 5)) := (Below.refl _ _).alloc (Nat.le_refl _) _
        have hown0 : (wr.alloc (.cells #[] 5)).ownsRow wr.heap.size 5 1 (.slice (some ⟨wr.heap.size, 0, none⟩) 0 0) 0 [] :=
          World.ownsRow_lit (base := wr.heap.size) (e := 5) (size := 1) wr #[] 0 (Nat.le_refl _) (by simp [maxLen]) (by simp)
        have hsr0 := hsr.below hb0 (Nat.le_refl _)
        have HLF0 := Lib.hid (crleft_any g _ _ (wr.alloc (.cells #[] 5)) (by
          obtain ⟨vv, h1, h2⟩ := hrd.out
          exact ⟨vv, h1.alloc _, h2.below hb0 (Nat.le_refl _)⟩))
        have hD2 : wrap64 ((bs.length : Int) - (rest.length : Int)) = D := by rw [hD]; have := HLL.out; simp only [wrap64]; omega
        clear hlr
        go_wp2_with fail
        refine HE.out.mono ?_
        rintro e w9 ⟨rfl, rfl⟩
        go_wp2_with fail
        refine HLF0.out.mono ?_
        rintro e w9 ⟨rfl, rfl⟩
        obtain ⟨i0, hi, hz0, hz1, hz2⟩ := info_parts info8x
        go_wp2_with (refine wpList_from rfl _ _ 23 5 rfl Try.underlying23 size8 _ D _ rfl hsr0 (by first | rfl | (rw [← hD2]; rfl)) (by have := HDL.out; simpa using this) ?_)
        intro ad2 c2 hs2
        rw [← List.map_drop, HDR.out] at hs2
        have HM := Lib.hid (show rest.length ≤ 100000000 from Nat.le_trans (suf_len HSUF.out) HLL.out)
        go_wp2_with (at_builtin; refine wpList_append_sl rfl _ _ 23 rfl wr.heap.size 5 i0 (.int .u8 0) 1 Try.underlying23 hi hz0 hz1 hz2 rfl _ 0 [] rfl hown0 (.slice ad2 (bs.length - D) c2) (rest.map (Value.int .u8)) rfl hs2 (one8 _) (by have := HM.out; rw [List.length_map]; unfold maxLen; omega) (by have := HM.out; rw [List.length_map]; omega) (by simp) ?_)
        intro rv w10 hown1 hg1
        have hb10 := below_grown hb0 hown0 (Nat.le_refl _) (by simp) hg1
        have hrv : Sl w10 rv (rest.map (Value.int .u8)) := by simpa using Sl.of_owns hown1
        have hkl10 := hkl.out.belowS hb10
        have hpr10 := hpr.out.mono (w' := w10) (fun u zs hu => hu.below hb10 (Nat.le_refl _))
        rw [Nat.sub_self, List.replicate_zero, List.append_nil] at hpr10
        have HBD := Lib.hid (Bds.ofBlk hkl10 hpr10 k HLE.out.symm (by rw [HLE.out]; omega))
        have hbr10 := hbr.trans (hb10.mono hbr.size)
        clear hown0 hown1 hg1 hb0 hb10 hs2 hsr0 hsr hkl10 hpr10
        go_wp2
        go_ret3
        rw [HRS.out]
        exact ⟨_, _, rfl, HBD.out, hrv, hbr10⟩
      · rw [if_neg he] at HRS
        go_wp2_with fail
        refine HE.out.mono ?_
        rintro e w9 ⟨rfl, rfl⟩
        go_wp2
        go_ret3
        rw [HRS.out]
        exact ⟨_, _, rfl, Bds.nil _, Sl.nil _, hbr⟩

end Go.Proofs.Ytpdajglcpkfonaa
