
/- The reference's log: Open (printed by gen_sre.py). Conditions: none. A device that no call made: every call's answer (printed by gen_dvn.py). A log: awake. Conditions: the tables of SHA are laid. The reference's device: Crash (printed by gen_rve.py). -/
import Derived.Test.YtgfkejecigefbaaDoorSo3
import Derived.Test.YtgfkejecigefbaaDoorSo1
import Derived.Test.YtgfkejecigefbaaDoorInv
import Derived.Test.YtgfkejecigefbaaDoorDvA
import Derived.Test.YtgfkejecigefbaaDoorSo2
namespace Go.Proofs.YtgfkejecigefbaaDoor
open Go.RowKit
set_option linter.unusedVariables false

/-- The reference's log at q, over the device at y. -/
structure RLg (w : World) (q y gl gk gw B : Nat) (v : Value) (s : LSt) (d : DSt) : Prop where
  blk : Blk w q 97 #[.pointer (some ⟨y, 0, none⟩), v, .int .i64 s.fin, .bool s.stop]
  row : TBs w B v s.l
  dev : RDev w y gl gk gw d
  secs : s.secs = d.l.length
  fin : s.fin ≤ s.secs
  cnt : s.l.length ≤ s.fin
  isB : ∀ p ∈ s.l, IsB p
/-- What the reference's Open answers. -/
def ROpenP (w w' : World) (y gl gk gw : Nat) (d : DSt) (e : Ending) : Prop :=
  (d.opened.2 = 0 ∧ ∃ q v, e = .returned (.tuple #[.pointer (some ⟨q, 0, none⟩), .int .i64 0]) ∧ w.heap.size ≤ q ∧ RLg w' q y gl gk gw w.heap.size v d.log d.opened.1) ∨
  (d.opened.2 ≠ 0 ∧ e = .returned (.tuple #[.pointer none, .int .i64 d.opened.2]) ∧ RDev w' y gl gk gw d.opened.1)
structure Rc (w wr : World) (q y n F : Nat) (img : List (List Int)) (v : Value) (L : List (List Int)) : Prop where
  blk : Blk wr q 97 #[.pointer (some ⟨y, 0, none⟩), v, .int .i64 F, .bool false]
  row : TBs wr w.heap.size v L
  bel : Below w.heap.size w wr
  fin : F ≤ n
  cnt : L.length ≤ F
  isB : ∀ p ∈ L, IsB p
  scan : ∃ f, scanAll img = scanI img f F L ∧ n + 1 ≤ f + F
/-- Behind the sector that is written, nothing turns. -/
theorem wrote_drop (d : DSt) (k : Nat) (bs : List Int) : (d.wrote (k : Int) bs).img.drop (k + 1) = d.img.drop (k + 1) := by
  apply List.ext_getElem?
  intro i
  rw [List.getElem?_drop, List.getElem?_drop]
  unfold DSt.img
  rw [List.getElem?_map, List.getElem?_map]
  unfold DSt.wrote
  split
  · split
    · rw [chg_l]
    · show Option.map _ ((d.l.modify (k : Int).toNat _)[k + 1 + i]?) = _
      have hne : ¬ ((k : Int).toNat = k + 1 + i) := by rw [Int.toNat_natCast]; omega
      rw [List.getElem?_modify]
      simp only [hne, if_false]
      cases d.l[k + 1 + i]? <;> rfl
  · rfl
theorem scan_end {w wr : World} {q y n F : Nat} {img : List (List Int)} {v : Value} {L : List (List Int)} (h : Rc w wr q y n F img v L) (hn : nextI (img.drop F) ((L.length : Int) + 1) = none) : scanAll img = (L, F) := by
  obtain ⟨f, h1, _⟩ := h.scan
  exact h1.trans (scanI_none hn)
theorem Rc.next {w wr w' : World} {q y n F m : Nat} {img : List (List Int)} {v v' : Value} {L : List (List Int)} {b : List Int} (h : Rc w wr q y n F img v L) (hl : img.length = n) (h64 : ∀ p ∈ img, p.length = 64) (hn : nextI (img.drop F) ((L.length : Int) + 1) = some (b, m)) (hB : IsB b)
    (hk : Blk w' q 97 #[.pointer (some ⟨y, 0, none⟩), v', .int .i64 ((F + m : Nat) : Int), .bool false]) (hr : TBs w' w.heap.size v' (L ++ [b])) (hb : Below w.heap.size w w') : Rc w w' q y n (F + m) img v' (L ++ [b]) := by
  have hnl := nextI_le (fun p hp => h64 p (List.mem_of_mem_drop hp)) hn
  have hml : F + m ≤ n := by have h1 := hnl.1; have := h.fin; rw [List.length_drop, hl] at h1; omega
  refine ⟨hk, hr, hb, hml, by have := h.cnt; have := hnl.2.1; simp; omega, fun p hp => ?_, ?_⟩
  · rcases List.mem_append.1 hp with h1 | h1
    · exact h.isB p h1
    · obtain rfl : p = b := by simpa using h1
      exact hB
  · obtain ⟨f, h1, h2⟩ := h.scan
    have := h.fin
    obtain ⟨f', rfl⟩ : ∃ f', f = f' + 1 := ⟨f - 1, by omega⟩
    have := hnl.2.1
    exact ⟨f', h1.trans (scanI_some hn), by omega⟩
theorem RDev.noTextR {w : World} {y gl gk gw : Nat} {d : DSt} (h : RDev w y gl gk gw d) : ∀ g ∈ [y, gl, gk, gw], ∀ cur, ¬ Blk w g 5 cur := by
  obtain ⟨_, k1⟩ := h.rl.typ
  obtain ⟨_, k2⟩ := h.rk.typ
  obtain ⟨_, k3⟩ := h.rw.typ
  obtain ⟨_, _, _, _, _, _, k⟩ := h.blk
  intro g hg cur e
  simp only [List.mem_cons, List.not_mem_nil, or_false] at hg
  rcases hg with rfl | rfl | rfl | rfl
  · exact Blk.ne_ e k (by decide) rfl
  · exact Blk.ne_ e k1 (by decide) rfl
  · exact Blk.ne_ e k2 (by decide) rfl
  · exact Blk.ne_ e k3 (by decide) rfl
theorem RDev.lts {w : World} {y gl gk gw : Nat} {d : DSt} (h : RDev w y gl gk gw d) : ∀ g ∈ [y, gl, gk, gw], g < w.heap.size := by
  obtain ⟨_, k1⟩ := h.rl.typ
  obtain ⟨_, k2⟩ := h.rk.typ
  obtain ⟨_, k3⟩ := h.rw.typ
  obtain ⟨_, _, _, _, _, _, k⟩ := h.blk
  intro g hg
  simp only [List.mem_cons, List.not_mem_nil, or_false] at hg
  rcases hg with rfl | rfl | rfl | rfl
  · exact k.lt
  · exact k1.lt
  · exact k2.lt
  · exact k3.lt
/-- The log while its device alone turns. -/
theorem RLg.devOnly {w w' : World} {q y gl gk gw B : Nat} {v : Value} {s : LSt} {d d' : DSt} (h : RLg w q y gl gk gw B v s d) (hq : B ≤ q) (hl : ∀ g ∈ [y, gl, gk, gw], g < B) (ho : Only [y, gl, gk, gw] w w') (hd : RDev w' y gl gk gw d') (hn : d'.l.length = d.l.length) : RLg w' q y gl gk gw B v s d' :=
  ⟨ho.blk h.blk (fun hm => by have := hl _ hm; omega), h.row.only ho h.dev.noTextR (fun g hg hm => by have := hl _ hm; have := (h.row.low hg).1; omega), hd, by rw [hn]; exact h.secs, h.fin, h.cnt, h.isB⟩
theorem drop_getD {X Y : List (List Int)} {k : Nat} (h : X.drop k = Y.drop k) : X.getD k [] = Y.getD k [] := by
  have h2 := congrArg (fun z : List (List Int) => z[0]?) h
  simp only [List.getElem?_drop, Nat.add_zero] at h2
  rw [List.getD_eq_getElem?_getD, List.getD_eq_getElem?_getD, h2]
theorem drop_getD_cons {X : List (List Int)} {k : Nat} (h : k < X.length) : X.drop k = X.getD k [] :: X.drop (k + 1) := by
  rw [List.drop_eq_getElem_cons h, List.getD_eq_getElem?_getD, List.getElem?_eq_getElem h]
  rfl
theorem drop_next {X Y : List (List Int)} {k : Nat} (h : X.drop k = Y.drop k) : X.drop (k + 1) = Y.drop (k + 1) := by
  have h2 := congrArg (List.drop 1) h
  rw [List.drop_drop, List.drop_drop] at h2
  exact h2

abbrev NwAct (y gl n cl k : Nat) (sv : Value) (sk : List Int) (CB : Bool) (x1 x2 x3 x4 x5 x6 x7 x8 x10 x11 x12 x13 x14 x15 x16 x17 x18 x19 x20 x21 x22 x23 x24 x25 x26 x27 x28 x29 x30 x31 x32 x33 x34 x35 x36 x37 x38 x39 x40 x41 x42 x43 x44 x45 x46 x47 x48 x49 x50 x51 x52 x53 x54 x55 x56 x57 x58 x59 x60 x61 x62 x63 x64 x65 x66 x67 x68 x69 x70 x71 x83 x84 x85 x86 x87 x88 x89 x90 x91 x92 x93 x94 x95 x96 : Value) (u : Nat → Value) : Act := { tmps := #[.pointer (some ⟨y, 0, none⟩), x1, x2, x3, x4, x5, x6, x7, x8, .int .i64 k, x10, x11, x12, x13, x14, x15, x16, x17, x18, x19, x20, x21, x22, x23, x24, x25, x26, x27, x28, x29, x30, x31, x32, x33, x34, x35, x36, x37, x38, x39, x40, x41, x42, x43, x44, x45, x46, x47, x48, x49, x50, x51, x52, x53, x54, x55, x56, x57, x58, x59, x60, x61, x62, x63, x64, x65, x66, x67, x68, x69, x70, x71, u 72, u 73, u 74, u 75, u 76, u 77, u 78, u 79, u 80, u 81, u 82, x83, x84, x85, x86, x87, x88, x89, x90, x91, x92, x93, x94, x95, x96], defers := [] }
structure NwT (y gl n cl k : Nat) (sv : Value) (sk : List Int) (CB : Bool) (x1 x2 x3 x4 x5 x6 x7 x8 x10 x11 x12 x13 x14 x15 x16 x17 x18 x19 x20 x21 x22 x23 x24 x25 x26 x27 x28 x29 x30 x31 x32 x33 x34 x35 x36 x37 x38 x39 x40 x41 x42 x43 x44 x45 x46 x47 x48 x49 x50 x51 x52 x53 x54 x55 x56 x57 x58 x59 x60 x61 x62 x63 x64 x65 x66 x67 x68 x69 x70 x71 x83 x84 x85 x86 x87 x88 x89 x90 x91 x92 x93 x94 x95 x96 : Value) (W : World) (D : Nat → Bool) (u : Nat → Value) (w : World) : Prop where
  bel : Below W.heap.size W w
  s0 : D 0 = true → u 72 = .pointer (some ⟨y, 0, none⟩)
  s1 : D 1 = true → u 73 = .pointer (some ⟨y, 0, none⟩)
  s2 : D 2 = true → u 74 = .pointer (some ⟨y, 0, none⟩)
  s3 : D 3 = true → u 75 = .slice (some ⟨gl, 0, none⟩) n cl
  s4 : D 4 = true → u 76 = .int .i64 k
  s5 : D 5 = true → u 77 = .pointer (some ⟨gl, k, none⟩)
  s6 : D 6 = true → u 78 = sv
  s7 : D 7 = true → u 79 = .string (strOfNums sk)
  s8 : D 8 = true → Sl w (u 80) (zS.map (Value.int .u8))
  s9 : D 9 = true → u 81 = .string (strOfNums zS)
  s10 : D 10 = true → u 82 = .bool CB
theorem NwT.grow {y gl n cl k : Nat} {sv : Value} {sk : List Int} {CB : Bool} {x1 x2 x3 x4 x5 x6 x7 x8 x10 x11 x12 x13 x14 x15 x16 x17 x18 x19 x20 x21 x22 x23 x24 x25 x26 x27 x28 x29 x30 x31 x32 x33 x34 x35 x36 x37 x38 x39 x40 x41 x42 x43 x44 x45 x46 x47 x48 x49 x50 x51 x52 x53 x54 x55 x56 x57 x58 x59 x60 x61 x62 x63 x64 x65 x66 x67 x68 x69 x70 x71 x83 x84 x85 x86 x87 x88 x89 x90 x91 x92 x93 x94 x95 x96 : Value} {W : World} {D : Nat → Bool} {u : Nat → Value} {w w' : World} (h : NwT y gl n cl k sv sk CB x1 x2 x3 x4 x5 x6 x7 x8 x10 x11 x12 x13 x14 x15 x16 x17 x18 x19 x20 x21 x22 x23 x24 x25 x26 x27 x28 x29 x30 x31 x32 x33 x34 x35 x36 x37 x38 x39 x40 x41 x42 x43 x44 x45 x46 x47 x48 x49 x50 x51 x52 x53 x54 x55 x56 x57 x58 x59 x60 x61 x62 x63 x64 x65 x66 x67 x68 x69 x70 x71 x83 x84 x85 x86 x87 x88 x89 x90 x91 x92 x93 x94 x95 x96 W D u w) (hb : Below w.heap.size w w') : NwT y gl n cl k sv sk CB x1 x2 x3 x4 x5 x6 x7 x8 x10 x11 x12 x13 x14 x15 x16 x17 x18 x19 x20 x21 x22 x23 x24 x25 x26 x27 x28 x29 x30 x31 x32 x33 x34 x35 x36 x37 x38 x39 x40 x41 x42 x43 x44 x45 x46 x47 x48 x49 x50 x51 x52 x53 x54 x55 x56 x57 x58 x59 x60 x61 x62 x63 x64 x65 x66 x67 x68 x69 x70 x71 x83 x84 x85 x86 x87 x88 x89 x90 x91 x92 x93 x94 x95 x96 W D u w' :=
  ⟨below_trans2 h.bel hb, h.s0, h.s1, h.s2, h.s3, h.s4, h.s5, h.s6, h.s7, (fun q => by have h := h.s8 q; exact (h.below hb (Nat.le_refl _))), h.s9, h.s10⟩
def NwInv (y gl n cl k : Nat) (sv : Value) (sk : List Int) (CB : Bool) (x1 x2 x3 x4 x5 x6 x7 x8 x10 x11 x12 x13 x14 x15 x16 x17 x18 x19 x20 x21 x22 x23 x24 x25 x26 x27 x28 x29 x30 x31 x32 x33 x34 x35 x36 x37 x38 x39 x40 x41 x42 x43 x44 x45 x46 x47 x48 x49 x50 x51 x52 x53 x54 x55 x56 x57 x58 x59 x60 x61 x62 x63 x64 x65 x66 x67 x68 x69 x70 x71 x83 x84 x85 x86 x87 x88 x89 x90 x91 x92 x93 x94 x95 x96 : Value) (W : World) (D : Nat → Bool) (a : Act) (w : World) : Prop := ∃ u, a = NwAct y gl n cl k sv sk CB x1 x2 x3 x4 x5 x6 x7 x8 x10 x11 x12 x13 x14 x15 x16 x17 x18 x19 x20 x21 x22 x23 x24 x25 x26 x27 x28 x29 x30 x31 x32 x33 x34 x35 x36 x37 x38 x39 x40 x41 x42 x43 x44 x45 x46 x47 x48 x49 x50 x51 x52 x53 x54 x55 x56 x57 x58 x59 x60 x61 x62 x63 x64 x65 x66 x67 x68 x69 x70 x71 x83 x84 x85 x86 x87 x88 x89 x90 x91 x92 x93 x94 x95 x96 u ∧ NwT y gl n cl k sv sk CB x1 x2 x3 x4 x5 x6 x7 x8 x10 x11 x12 x13 x14 x15 x16 x17 x18 x19 x20 x21 x22 x23 x24 x25 x26 x27 x28 x29 x30 x31 x32 x33 x34 x35 x36 x37 x38 x39 x40 x41 x42 x43 x44 x45 x46 x47 x48 x49 x50 x51 x52 x53 x54 x55 x56 x57 x58 x59 x60 x61 x62 x63 x64 x65 x66 x67 x68 x69 x70 x71 x83 x84 x85 x86 x87 x88 x89 x90 x91 x92 x93 x94 x95 x96 W D u w
theorem needs_re {ops : Array Oper} {i j : Nat} (h : (needs ops i).contains j = true) : j ∈ needs ops i := List.contains_iff_mem.1 h

set_option maxRecDepth 100000 in
set_option maxHeartbeats 8000000 in
theorem ropen_any (w : World) (y gl gk gw : Nat) (d : DSt) (h : RDev w y gl gk gw d) :
    Calls Tryd.prog 47 #[.pointer (some ⟨y, 0, none⟩)] w fun e w' => ROpenP w w' y gl gk gw d e ∧ Only [y, gl, gk, gw] w w' := by
  have HD := Lib.hid h
  have HIL := Lib.hid (img_len d)
  have H64 := Lib.hid (img_64 h.ok)
  have HBB := Lib.hid (img_B h.ok)
  have hpos := h.pos
  obtain ⟨cl, ck, cw, hcl, _, _, k0⟩ := h.blk
  have c4 : w.cell? ⟨y, 4, none⟩ = some (.bool d.dead) := k0.cell 4
  have hyl := k0.lt
  obtain ⟨n, hn⟩ : ∃ n, d.l.length = n := ⟨_, rfl⟩
  rw [hn] at hpos k0 hcl HIL
  have c0 : w.cell? ⟨y, 0, none⟩ = some (.slice (some ⟨gl, 0, none⟩) n cl) := k0.cell 0
  have HNN := Lib.hid hn
  clear k0 h hn
  by_cases hdead : d.dead = true
  · have HO := Lib.hid (show d.opened = (d, 70) from if_pos hdead)
    rw [hdead] at c4
    go_enter Tryd.func47, Tryd.ntmps47
    go_wp2
    go_ret2
    exact ⟨.inr ⟨by rw [HO.out]; simp, by rw [HO.out]; rfl, by rw [HO.out]; exact HD.out⟩, Only.refl _ _⟩
  · have HO := Lib.hid (show d.opened = d.wiped from if_neg hdead)
    have hdf : d.dead = false := by simpa using hdead
    rw [hdf] at c4
    clear hdead hdf
    have kq := Blk.new w 97 #[.pointer (some ⟨y, 0, none⟩), .slice none 0 0, .int .i64 0, .bool false]
    have hbq : Below w.heap.size w (w.alloc (.cells #[.pointer (some ⟨y, 0, none⟩), .slice none 0 0, .int .i64 0, .bool false] 97)) := (Below.refl _ _).alloc (Nat.le_refl _) _
    have HST := Lib.hid (show Rc w (w.alloc (.cells #[.pointer (some ⟨y, 0, none⟩), .slice none 0 0, .int .i64 0, .bool false] 97)) w.heap.size y n 0 d.img (.slice none 0 0) [] from
      ⟨kq, TBs.nil _ _, hbq, Nat.zero_le _, Nat.le_refl _, by simp, ⟨d.img.length + 1, rfl, by rw [HIL.out]; omega⟩⟩)
    have c0a := (hbq.cell (p := ⟨y, 0, none⟩) hyl).trans c0
    clear kq hbq
    go_enter Tryd.func47, Tryd.ntmps47
    go_wp2
    generalize (w.alloc (.cells #[.pointer (some ⟨y, 0, none⟩), .slice none 0 0, .int .i64 0, .bool false] 97)) = w2 at *
    go_loopw [24] (fun i wr => ∃ (j F : Nat) (v : Value) (L : List (List Int)), j ≤ F ∧ j ≤ n ∧ i = .int .i64 j ∧ Hid (Rc w wr w.heap.size y n F d.img v L)) (fun i _ => n - (intOf i).toNat)
    case atStart => exact ⟨0, 0, _, _, Nat.le_refl _, Nat.zero_le _, rfl, HST⟩
    case round =>
      obtain ⟨j, F, v, L, hjF, hjn, rfl, hs⟩ := hrel
      obtain ⟨va, vc, rfl⟩ := hs.out.row.val
      have hFn := hs.out.fin
      by_cases hj : j < n
      · have hjI : (j : Int) < (n : Int) := by omega
        have c2 : wr.cell? ⟨w.heap.size, 2, none⟩ = some (.int .i64 F) := hs.out.blk.cell 2
        have c1 : wr.cell? ⟨w.heap.size, 1, none⟩ = some (.slice va L.length vc) := hs.out.blk.cell 1
        have hLn : L.length ≤ 16384 := by have := hs.out.cnt; omega
        have hw1 : IntKind.i64.wrap ((L.length : Int) + 1) = (L.length : Int) + 1 := by rw [IntKind.wrap_i64]; omega
        have hqw : w.heap.size < wr.heap.size := hs.out.blk.lt
        have HNX := Lib.hid (fun (w' : World) (hb : Below wr.heap.size wr w') => rnext_any w' y gl gk gw d F ((L.length : Int) + 1) ((HD.out.below hs.out.bel).below hb) (by rw [HNN.out]; exact hFn) (by omega) (by omega))
        have hG := Lib.hid (And.intro c2 c1)
        have HG2 := Lib.hid (fun w' (hb : Below wr.heap.size wr w') => And.intro ((hb.cell (p := ⟨w.heap.size, 2, none⟩) hqw).trans c2) ((hb.cell (p := ⟨w.heap.size, 1, none⟩) hqw).trans c1))
        go_upto_region 6 with (fail)
        go_region_held3 (fun w' => w'.cell? ⟨w.heap.size, 2, none⟩ = some (.int .i64 F) ∧ w'.cell? ⟨w.heap.size, 1, none⟩ = some (.slice va L.length vc)) (first | exact hG.out | exact HG2.out _ (by assumption)) (first | (go_at_call 66; refine (HNX.out _ (by first | exact Below.refl _ _ | exact (Below.refl _ _).drew)).mono ?_; rintro e w3 ⟨ra, rn, rc, ln, ok, rfl, hx3, hb3⟩; have hb3 := below_trans2 (Below.refl wr.heap.size wr).drew hb3; have HX3 := Lib.hid hx3; clear hx3))
        have HB3 := Lib.hid (below_trans2 hs.out.bel hb3)
        have HKQ := Lib.hid (hs.out.blk.belowS hb3)
        have HRW := Lib.hid (hs.out.row.below hb3)
        have hszr := hs.out.bel.size
        have HSQ := Lib.hid hs.out
        clear hs c2 c1 HNX hG HG2 hb3 hw1
        have c2 : w3.cell? ⟨w.heap.size, 2, none⟩ = some (.int .i64 F) := HKQ.out.cell 2
        have c1 : w3.cell? ⟨w.heap.size, 1, none⟩ = some (.slice va L.length vc) := HKQ.out.cell 1
        cases ok with
        | false =>
          have hnone := HX3.out.2 rfl
          have HSC := Lib.hid (scan_end HSQ.out hnone)
          have HTQ := Lib.hid (And.intro HSQ.out.cnt HSQ.out.isB)
          clear hnone HX3 HSQ c1 hjI hj hjn hjF
          have HW := Lib.hid (show d.wiped = wipeD (d.img.drop F) F false d from by unfold DSt.wiped; rw [HSC.out])
          have HLT := Lib.hid HD.out.lts
          have HDW := Lib.hid (HD.out.below HB3.out)
          have HLG := Lib.hid (show RLg w3 w.heap.size y gl gk gw w.heap.size (.slice va L.length vc) d.log d from by
            rw [show d.log = ⟨n, F, L, false⟩ from by unfold DSt.log; rw [HSC.out, HNN.out]]
            exact ⟨HKQ.out, HRW.out, HDW.out, HNN.out.symm, hFn, HTQ.out.1, HTQ.out.2⟩)
          have HBW := Lib.hid (Only.of_below [y, gl, gk, gw] HB3.out)
          clear HKQ HRW HTQ
          go_wp2
          go_loopw [8, 9] (fun x i wr => ∃ (k : Nat) (x0 : Bool) (d' : DSt), F ≤ k ∧ k ≤ n ∧ i = .int .i64 k ∧ x = .bool x0 ∧ Hid (wipeD (d.img.drop F) F false d = wipeD (d.img.drop k) k x0 d') ∧ Hid (RDev wr y gl gk gw d') ∧ Hid (d'.l.length = n ∧ d'.img.drop k = d.img.drop k) ∧ Hid (Only [y, gl, gk, gw] w3 wr)) (fun _ i _ => n - (intOf i).toNat)
          case atStart => exact ⟨F, false, d, Nat.le_refl _, hFn, rfl, rfl, Lib.hid rfl, HDW, Lib.hid ⟨HNN.out, rfl⟩, Lib.hid (Only.refl _ _)⟩
          case round =>
            obtain ⟨k, x0, d', hFk, hkn, rfl, rfl, hp, hD, hI, hO⟩ := hrel
            have HIL2 := Lib.hid (show d'.img.length = n from by rw [img_len, hI.out.1])
            obtain ⟨cl', ck', cw', hcl', _, _, k'⟩ := hD.out.blk
            rw [hI.out.1] at k' hcl'
            have c0 : wr.cell? ⟨y, 0, none⟩ = some (.slice (some ⟨gl, 0, none⟩) n cl') := k'.cell 0
            by_cases hlt : k < n
            · have hkI : (k : Int) < (n : Int) := by omega
              have HCY := Lib.hid (And.intro c0 k'.lt)
              obtain ⟨u, cu, hu⟩ := (show TRow wr gl d'.img from hD.out.rl).get (i := k) (by rw [HIL2.out]; exact hlt)
              have hgl : gl < wr.heap.size := by obtain ⟨_, kk⟩ := hD.out.rl.typ; exact kk.lt
              rw [drop_getD hI.out.2] at hu
              have HDR := Lib.hid (drop_getD_cons (X := d.img) (k := k) (by rw [HIL.out]; exact hlt))
              have HBK := Lib.hid (HBB.out (d.img.getD k []) (getD_mem (by rw [HIL.out]; exact hlt)))
              generalize d.img.getD k [] = sk at *
              obtain ⟨a9, n9, c9, e9⟩ := hu.sl.val
              subst e9
              have HSS := Lib.hid hu.sl
              have HCS := Lib.hid (And.intro cu hgl)
              clear hu cu hgl k'
              have HHI := Lib.hid (show (0 : Int) ≤ (k : Int) ∧ (k : Int) < (n : Int) by omega)
              by_cases hz : sk = zS
              · have HSE := Lib.hid (str_eq hz)
                have HP := Lib.hid (show wipeD (d.img.drop F) F false d = wipeD (d.img.drop (k + 1)) (k + 1) x0 d' from by rw [hp.out, HDR.out, wipeD, if_pos hz])
                clear hz
                go_upto_region 14 with (fail)
                refine wp_region_inv2 (NwInv y gl n cl' k (.slice a9 n9 c9) sk false (undef) (u2) (u3) (.pointer (some ⟨w.heap.size, 0, none⟩)) (.slice ra rn rc) (.int .i64 ln) (.bool false) (.bool x0) (u10) (undef) (.pointer (some ⟨y, 0, none⟩)) (.pointer (some ⟨y, 0, none⟩)) (.pointer (some ⟨y, 4, none⟩)) (.bool false) (.pointer (some ⟨y, 0, none⟩)) (.agg #[.pointer (some ⟨y, 0, none⟩), .slice none 0 0, .int .i64 0, .bool false]) (.pointer (some ⟨w.heap.size, 0, none⟩)) (.pointer (some ⟨y, 0, none⟩)) (.pointer (some ⟨y, 0, none⟩)) (.pointer (some ⟨y, 0, none⟩)) (.slice (some ⟨gl, 0, none⟩) n cl) (.int .i64 (n : Int)) (.int .i64 (j : Int)) (.bool true) (.tuple #[.slice ra rn rc, .int .i64 ln, .bool false]) (.pointer (some ⟨y, 0, none⟩)) (.pointer (some ⟨w.heap.size, 0, none⟩)) (.pointer (some ⟨w.heap.size, 0, none⟩)) (.pointer (some ⟨w.heap.size, 2, none⟩)) (.int .i64 (F : Int)) (.pointer (some ⟨w.heap.size, 0, none⟩)) (.pointer (some ⟨w.heap.size, 0, none⟩)) (.pointer (some ⟨w.heap.size, 1, none⟩)) (.slice va L.length vc) (.int .i64 (L.length : Int)) (.int .i64 ((L.length : Int) + 1)) (.tuple #[.slice ra rn rc, .int .i64 ln, .bool false]) (.slice ra rn rc) (.int .i64 ln) (.bool false) (.bool false) (.bool true) (u44) (u45) (u46) (u47) (u48) (u49) (u50) (u51) (u52) (u53) (u54) (u55) (u56) (u57) (u58) (.pointer (some ⟨w.heap.size, 0, none⟩)) (.pointer (some ⟨w.heap.size, 0, none⟩)) (.pointer (some ⟨w.heap.size, 2, none⟩)) (.int .i64 (F : Int)) (.int .i64 (k : Int)) (.pointer (some ⟨y, 0, none⟩)) (.pointer (some ⟨y, 0, none⟩)) (.pointer (some ⟨y, 0, none⟩)) (.slice (some ⟨gl, 0, none⟩) n cl') (.int .i64 (n : Int)) (.bool true) (u70) (u71) (u83) (u84) (u85) (u86) (u87) (u88) (u89) (undef) (undef) (undef) (undef) (undef) (undef) (undef) wr) (by kernel_rfl) (by kernel_rfl) ?start ?step ?fin
                case start => exact ⟨(fun i => [u72, u73, u74, u75, u76, u77, u78, u79, u80, u81, u82].getD (i - 72) undef), rfl, ⟨(Below.refl _ _).drew, (fun q => by cases q), (fun q => by cases q), (fun q => by cases q), (fun q => by cases q), (fun q => by cases q), (fun q => by cases q), (fun q => by cases q), (fun q => by cases q), (fun q => by cases q), (fun q => by cases q), (fun q => by cases q)⟩⟩
                case step =>
                  intro D a w i hi hI hD hcl hn
                  obtain ⟨u, rfl, hX⟩ := hI
                  have hi' : i < 11 := hi
                  clear hi
                  rcases (show i = 0 ∨ i = 1 ∨ i = 2 ∨ i = 3 ∨ i = 4 ∨ i = 5 ∨ i = 6 ∨ i = 7 ∨ i = 8 ∨ i = 9 ∨ i = 10 from by omega) with rfl | rfl | rfl | rfl | rfl | rfl | rfl | rfl | rfl | rfl | rfl
                  · refine wpOp_plain rfl rfl ?_
                    go_simp
                    exact ⟨upd u 72 (.pointer (some ⟨y, 0, none⟩)), rfl, ⟨hX.bel, fun _ => rfl, fun h => hX.s1 h, fun h => hX.s2 h, fun h => hX.s3 h, fun h => hX.s4 h, fun h => hX.s5 h, fun h => hX.s6 h, fun h => hX.s7 h, fun h => hX.s8 h, fun h => hX.s9 h, fun h => hX.s10 h⟩⟩
                  · have d0 : D 0 = true := hn 0 (needs_re (by kernel_rfl))
                    have f0 := hX.s0 d0
                    refine wpOp_plain rfl rfl ?_
                    go_simp
                    exact ⟨upd u 73 (.pointer (some ⟨y, 0, none⟩)), (by simp [upd, f0]), ⟨hX.bel, fun h => hX.s0 h, fun _ => rfl, fun h => hX.s2 h, fun h => hX.s3 h, fun h => hX.s4 h, fun h => hX.s5 h, fun h => hX.s6 h, fun h => hX.s7 h, fun h => hX.s8 h, fun h => hX.s9 h, fun h => hX.s10 h⟩⟩
                  · have d1 : D 1 = true := hn 1 (needs_re (by kernel_rfl))
                    have f1 := hX.s1 d1
                    refine wpOp_plain rfl rfl ?_
                    go_simp
                    exact ⟨upd u 74 (.pointer (some ⟨y, 0, none⟩)), (by simp [upd, f1]), ⟨hX.bel, fun h => hX.s0 h, fun h => hX.s1 h, fun _ => rfl, fun h => hX.s3 h, fun h => hX.s4 h, fun h => hX.s5 h, fun h => hX.s6 h, fun h => hX.s7 h, fun h => hX.s8 h, fun h => hX.s9 h, fun h => hX.s10 h⟩⟩
                  · have d2 : D 2 = true := hn 2 (needs_re (by kernel_rfl))
                    have f2 := hX.s2 d2
                    have cy := (hX.bel.cell (p := ⟨y, 0, none⟩) HCY.out.2).trans HCY.out.1
                    refine wpOp_plain rfl rfl ?_
                    go_simp
                    exact ⟨upd u 75 (.slice (some ⟨gl, 0, none⟩) n cl'), (by simp [upd, f2]), ⟨hX.bel, fun h => hX.s0 h, fun h => hX.s1 h, fun h => hX.s2 h, fun _ => rfl, fun h => hX.s4 h, fun h => hX.s5 h, fun h => hX.s6 h, fun h => hX.s7 h, fun h => hX.s8 h, fun h => hX.s9 h, fun h => hX.s10 h⟩⟩
                  · refine wpOp_plain rfl rfl ?_
                    go_simp
                    exact ⟨upd u 76 (.int .i64 k), rfl, ⟨hX.bel, fun h => hX.s0 h, fun h => hX.s1 h, fun h => hX.s2 h, fun h => hX.s3 h, fun _ => rfl, fun h => hX.s5 h, fun h => hX.s6 h, fun h => hX.s7 h, fun h => hX.s8 h, fun h => hX.s9 h, fun h => hX.s10 h⟩⟩
                  · have d3 : D 3 = true := hn 3 (needs_re (by kernel_rfl))
                    have f3 := hX.s3 d3
                    have d4 : D 4 = true := hn 4 (needs_re (by kernel_rfl))
                    have f4 := hX.s4 d4
                    refine wpOp_plain rfl rfl ?_
                    go_simp
                    exact ⟨upd u 77 (.pointer (some ⟨gl, k, none⟩)), (by simp [upd, f3, f4]), ⟨hX.bel, fun h => hX.s0 h, fun h => hX.s1 h, fun h => hX.s2 h, fun h => hX.s3 h, fun h => hX.s4 h, fun _ => rfl, fun h => hX.s6 h, fun h => hX.s7 h, fun h => hX.s8 h, fun h => hX.s9 h, fun h => hX.s10 h⟩⟩
                  · have d5 : D 5 = true := hn 5 (needs_re (by kernel_rfl))
                    have f5 := hX.s5 d5
                    have cs := (hX.bel.cell (p := ⟨gl, k, none⟩) HCS.out.2).trans HCS.out.1
                    refine wpOp_plain rfl rfl ?_
                    go_simp
                    exact ⟨upd u 78 (.slice a9 n9 c9), (by simp [upd, f5]), ⟨hX.bel, fun h => hX.s0 h, fun h => hX.s1 h, fun h => hX.s2 h, fun h => hX.s3 h, fun h => hX.s4 h, fun h => hX.s5 h, fun _ => rfl, fun h => hX.s7 h, fun h => hX.s8 h, fun h => hX.s9 h, fun h => hX.s10 h⟩⟩
                  · have d6 : D 6 = true := hn 6 (needs_re (by kernel_rfl))
                    have f6 := hX.s6 d6
                    have hcv := (HSS.out.below hX.bel (Nat.le_refl _)).conv
                    refine wpOp_plain rfl rfl ?_
                    go_simp
                    exact ⟨upd u 79 (.string (strOfNums sk)), (by simp [upd, f6]), ⟨hX.bel, fun h => hX.s0 h, fun h => hX.s1 h, fun h => hX.s2 h, fun h => hX.s3 h, fun h => hX.s4 h, fun h => hX.s5 h, fun h => hX.s6 h, fun _ => rfl, fun h => hX.s8 h, fun h => hX.s9 h, fun h => hX.s10 h⟩⟩
                  · have hmk := run_make64 w
                    refine wpOp_plain rfl rfl ?_
                    go_simp
                    have hb2 : Below w.heap.size w (w.alloc (.cells zer64 5)) := (Below.refl _ _).alloc (Nat.le_refl _) _
                    have hX := hX.grow hb2
                    exact ⟨upd u 80 (.slice (some ⟨w.heap.size, 0, none⟩) 64 64), rfl, ⟨hX.bel, fun h => hX.s0 h, fun h => hX.s1 h, fun h => hX.s2 h, fun h => hX.s3 h, fun h => hX.s4 h, fun h => hX.s5 h, fun h => hX.s6 h, fun h => hX.s7 h, fun _ => zer64_sl w, fun h => hX.s9 h, fun h => hX.s10 h⟩⟩
                  · have d8 : D 8 = true := hn 8 (needs_re (by kernel_rfl))
                    have f8 := hX.s8 d8
                    have hcv := f8.conv
                    refine wpOp_plain rfl rfl ?_
                    go_simp
                    exact ⟨upd u 81 (.string (strOfNums zS)), rfl, ⟨hX.bel, fun h => hX.s0 h, fun h => hX.s1 h, fun h => hX.s2 h, fun h => hX.s3 h, fun h => hX.s4 h, fun h => hX.s5 h, fun h => hX.s6 h, fun h => hX.s7 h, fun h => hX.s8 h, fun _ => rfl, fun h => hX.s10 h⟩⟩
                  · have d7 : D 7 = true := hn 7 (needs_re (by kernel_rfl))
                    have f7 := hX.s7 d7
                    have d9 : D 9 = true := hn 9 (needs_re (by kernel_rfl))
                    have f9 := hX.s9 d9
                    have hse := HSE.out
                    refine wpOp_plain rfl rfl ?_
                    go_simp
                    exact ⟨upd u 82 (.bool false), (by simp [upd, f7, f9]), ⟨hX.bel, fun h => hX.s0 h, fun h => hX.s1 h, fun h => hX.s2 h, fun h => hX.s3 h, fun h => hX.s4 h, fun h => hX.s5 h, fun h => hX.s6 h, fun h => hX.s7 h, fun h => hX.s8 h, fun h => hX.s9 h, fun _ => rfl⟩⟩
                case fin =>
                  intro D a' w7 hI7 hall
                  obtain ⟨u, rfl, hX⟩ := hI7
                  have h9 := hX.s10 (hall 10 (by decide))
                  have HB7 := Lib.hid hX.bel
                  clear hX hall
                  dsimp only [NwAct]
                  rw [h9]
                  clear h9
                  have HD2 := Lib.hid (hD.out.below HB7.out)
                  have HI2 := Lib.hid (And.intro hI.out.1 (drop_next hI.out.2))
                  have HO2 := Lib.hid (hO.out.trans (Only.of_below [y, gl, gk, gw] HB7.out))
                  clear hp hD hI hO
                  go_wp2
                  go_roundw
                  case rel => exact ⟨k + 1, x0, d', by omega, hlt, by go_num, rfl, HP, HD2, HI2, HO2⟩
                  case measure => simp [intOf]; omega
              · have HSE := Lib.hid (str_ne HBK.out zS_isB hz)
                have HBL := Lib.hid hz
                clear hz
                go_upto_region 14 with (fail)
                refine wp_region_inv2 (NwInv y gl n cl' k (.slice a9 n9 c9) sk true (undef) (u2) (u3) (.pointer (some ⟨w.heap.size, 0, none⟩)) (.slice ra rn rc) (.int .i64 ln) (.bool false) (.bool x0) (u10) (undef) (.pointer (some ⟨y, 0, none⟩)) (.pointer (some ⟨y, 0, none⟩)) (.pointer (some ⟨y, 4, none⟩)) (.bool false) (.pointer (some ⟨y, 0, none⟩)) (.agg #[.pointer (some ⟨y, 0, none⟩), .slice none 0 0, .int .i64 0, .bool false]) (.pointer (some ⟨w.heap.size, 0, none⟩)) (.pointer (some ⟨y, 0, none⟩)) (.pointer (some ⟨y, 0, none⟩)) (.pointer (some ⟨y, 0, none⟩)) (.slice (some ⟨gl, 0, none⟩) n cl) (.int .i64 (n : Int)) (.int .i64 (j : Int)) (.bool true) (.tuple #[.slice ra rn rc, .int .i64 ln, .bool false]) (.pointer (some ⟨y, 0, none⟩)) (.pointer (some ⟨w.heap.size, 0, none⟩)) (.pointer (some ⟨w.heap.size, 0, none⟩)) (.pointer (some ⟨w.heap.size, 2, none⟩)) (.int .i64 (F : Int)) (.pointer (some ⟨w.heap.size, 0, none⟩)) (.pointer (some ⟨w.heap.size, 0, none⟩)) (.pointer (some ⟨w.heap.size, 1, none⟩)) (.slice va L.length vc) (.int .i64 (L.length : Int)) (.int .i64 ((L.length : Int) + 1)) (.tuple #[.slice ra rn rc, .int .i64 ln, .bool false]) (.slice ra rn rc) (.int .i64 ln) (.bool false) (.bool false) (.bool true) (u44) (u45) (u46) (u47) (u48) (u49) (u50) (u51) (u52) (u53) (u54) (u55) (u56) (u57) (u58) (.pointer (some ⟨w.heap.size, 0, none⟩)) (.pointer (some ⟨w.heap.size, 0, none⟩)) (.pointer (some ⟨w.heap.size, 2, none⟩)) (.int .i64 (F : Int)) (.int .i64 (k : Int)) (.pointer (some ⟨y, 0, none⟩)) (.pointer (some ⟨y, 0, none⟩)) (.pointer (some ⟨y, 0, none⟩)) (.slice (some ⟨gl, 0, none⟩) n cl') (.int .i64 (n : Int)) (.bool true) (u70) (u71) (u83) (u84) (u85) (u86) (u87) (u88) (u89) (undef) (undef) (undef) (undef) (undef) (undef) (undef) wr) (by kernel_rfl) (by kernel_rfl) ?start ?step ?fin
                case start => exact ⟨(fun i => [u72, u73, u74, u75, u76, u77, u78, u79, u80, u81, u82].getD (i - 72) undef), rfl, ⟨(Below.refl _ _).drew, (fun q => by cases q), (fun q => by cases q), (fun q => by cases q), (fun q => by cases q), (fun q => by cases q), (fun q => by cases q), (fun q => by cases q), (fun q => by cases q), (fun q => by cases q), (fun q => by cases q), (fun q => by cases q)⟩⟩
                case step =>
                  intro D a w i hi hI hD hcl hn
                  obtain ⟨u, rfl, hX⟩ := hI
                  have hi' : i < 11 := hi
                  clear hi
                  rcases (show i = 0 ∨ i = 1 ∨ i = 2 ∨ i = 3 ∨ i = 4 ∨ i = 5 ∨ i = 6 ∨ i = 7 ∨ i = 8 ∨ i = 9 ∨ i = 10 from by omega) with rfl | rfl | rfl | rfl | rfl | rfl | rfl | rfl | rfl | rfl | rfl
                  · refine wpOp_plain rfl rfl ?_
                    go_simp
                    exact ⟨upd u 72 (.pointer (some ⟨y, 0, none⟩)), rfl, ⟨hX.bel, fun _ => rfl, fun h => hX.s1 h, fun h => hX.s2 h, fun h => hX.s3 h, fun h => hX.s4 h, fun h => hX.s5 h, fun h => hX.s6 h, fun h => hX.s7 h, fun h => hX.s8 h, fun h => hX.s9 h, fun h => hX.s10 h⟩⟩
                  · have d0 : D 0 = true := hn 0 (needs_re (by kernel_rfl))
                    have f0 := hX.s0 d0
                    refine wpOp_plain rfl rfl ?_
                    go_simp
                    exact ⟨upd u 73 (.pointer (some ⟨y, 0, none⟩)), (by simp [upd, f0]), ⟨hX.bel, fun h => hX.s0 h, fun _ => rfl, fun h => hX.s2 h, fun h => hX.s3 h, fun h => hX.s4 h, fun h => hX.s5 h, fun h => hX.s6 h, fun h => hX.s7 h, fun h => hX.s8 h, fun h => hX.s9 h, fun h => hX.s10 h⟩⟩
                  · have d1 : D 1 = true := hn 1 (needs_re (by kernel_rfl))
                    have f1 := hX.s1 d1
                    refine wpOp_plain rfl rfl ?_
                    go_simp
                    exact ⟨upd u 74 (.pointer (some ⟨y, 0, none⟩)), (by simp [upd, f1]), ⟨hX.bel, fun h => hX.s0 h, fun h => hX.s1 h, fun _ => rfl, fun h => hX.s3 h, fun h => hX.s4 h, fun h => hX.s5 h, fun h => hX.s6 h, fun h => hX.s7 h, fun h => hX.s8 h, fun h => hX.s9 h, fun h => hX.s10 h⟩⟩
                  · have d2 : D 2 = true := hn 2 (needs_re (by kernel_rfl))
                    have f2 := hX.s2 d2
                    have cy := (hX.bel.cell (p := ⟨y, 0, none⟩) HCY.out.2).trans HCY.out.1
                    refine wpOp_plain rfl rfl ?_
                    go_simp
                    exact ⟨upd u 75 (.slice (some ⟨gl, 0, none⟩) n cl'), (by simp [upd, f2]), ⟨hX.bel, fun h => hX.s0 h, fun h => hX.s1 h, fun h => hX.s2 h, fun _ => rfl, fun h => hX.s4 h, fun h => hX.s5 h, fun h => hX.s6 h, fun h => hX.s7 h, fun h => hX.s8 h, fun h => hX.s9 h, fun h => hX.s10 h⟩⟩
                  · refine wpOp_plain rfl rfl ?_
                    go_simp
                    exact ⟨upd u 76 (.int .i64 k), rfl, ⟨hX.bel, fun h => hX.s0 h, fun h => hX.s1 h, fun h => hX.s2 h, fun h => hX.s3 h, fun _ => rfl, fun h => hX.s5 h, fun h => hX.s6 h, fun h => hX.s7 h, fun h => hX.s8 h, fun h => hX.s9 h, fun h => hX.s10 h⟩⟩
                  · have d3 : D 3 = true := hn 3 (needs_re (by kernel_rfl))
                    have f3 := hX.s3 d3
                    have d4 : D 4 = true := hn 4 (needs_re (by kernel_rfl))
                    have f4 := hX.s4 d4
                    refine wpOp_plain rfl rfl ?_
                    go_simp
                    exact ⟨upd u 77 (.pointer (some ⟨gl, k, none⟩)), (by simp [upd, f3, f4]), ⟨hX.bel, fun h => hX.s0 h, fun h => hX.s1 h, fun h => hX.s2 h, fun h => hX.s3 h, fun h => hX.s4 h, fun _ => rfl, fun h => hX.s6 h, fun h => hX.s7 h, fun h => hX.s8 h, fun h => hX.s9 h, fun h => hX.s10 h⟩⟩
                  · have d5 : D 5 = true := hn 5 (needs_re (by kernel_rfl))
                    have f5 := hX.s5 d5
                    have cs := (hX.bel.cell (p := ⟨gl, k, none⟩) HCS.out.2).trans HCS.out.1
                    refine wpOp_plain rfl rfl ?_
                    go_simp
                    exact ⟨upd u 78 (.slice a9 n9 c9), (by simp [upd, f5]), ⟨hX.bel, fun h => hX.s0 h, fun h => hX.s1 h, fun h => hX.s2 h, fun h => hX.s3 h, fun h => hX.s4 h, fun h => hX.s5 h, fun _ => rfl, fun h => hX.s7 h, fun h => hX.s8 h, fun h => hX.s9 h, fun h => hX.s10 h⟩⟩
                  · have d6 : D 6 = true := hn 6 (needs_re (by kernel_rfl))
                    have f6 := hX.s6 d6
                    have hcv := (HSS.out.below hX.bel (Nat.le_refl _)).conv
                    refine wpOp_plain rfl rfl ?_
                    go_simp
                    exact ⟨upd u 79 (.string (strOfNums sk)), (by simp [upd, f6]), ⟨hX.bel, fun h => hX.s0 h, fun h => hX.s1 h, fun h => hX.s2 h, fun h => hX.s3 h, fun h => hX.s4 h, fun h => hX.s5 h, fun h => hX.s6 h, fun _ => rfl, fun h => hX.s8 h, fun h => hX.s9 h, fun h => hX.s10 h⟩⟩
                  · have hmk := run_make64 w
                    refine wpOp_plain rfl rfl ?_
                    go_simp
                    have hb2 : Below w.heap.size w (w.alloc (.cells zer64 5)) := (Below.refl _ _).alloc (Nat.le_refl _) _
                    have hX := hX.grow hb2
                    exact ⟨upd u 80 (.slice (some ⟨w.heap.size, 0, none⟩) 64 64), rfl, ⟨hX.bel, fun h => hX.s0 h, fun h => hX.s1 h, fun h => hX.s2 h, fun h => hX.s3 h, fun h => hX.s4 h, fun h => hX.s5 h, fun h => hX.s6 h, fun h => hX.s7 h, fun _ => zer64_sl w, fun h => hX.s9 h, fun h => hX.s10 h⟩⟩
                  · have d8 : D 8 = true := hn 8 (needs_re (by kernel_rfl))
                    have f8 := hX.s8 d8
                    have hcv := f8.conv
                    refine wpOp_plain rfl rfl ?_
                    go_simp
                    exact ⟨upd u 81 (.string (strOfNums zS)), rfl, ⟨hX.bel, fun h => hX.s0 h, fun h => hX.s1 h, fun h => hX.s2 h, fun h => hX.s3 h, fun h => hX.s4 h, fun h => hX.s5 h, fun h => hX.s6 h, fun h => hX.s7 h, fun h => hX.s8 h, fun _ => rfl, fun h => hX.s10 h⟩⟩
                  · have d7 : D 7 = true := hn 7 (needs_re (by kernel_rfl))
                    have f7 := hX.s7 d7
                    have d9 : D 9 = true := hn 9 (needs_re (by kernel_rfl))
                    have f9 := hX.s9 d9
                    have hse := HSE.out
                    refine wpOp_plain rfl rfl ?_
                    go_simp
                    exact ⟨upd u 82 (.bool true), (by simp [upd, f7, f9]), ⟨hX.bel, fun h => hX.s0 h, fun h => hX.s1 h, fun h => hX.s2 h, fun h => hX.s3 h, fun h => hX.s4 h, fun h => hX.s5 h, fun h => hX.s6 h, fun h => hX.s7 h, fun h => hX.s8 h, fun h => hX.s9 h, fun _ => rfl⟩⟩
                case fin =>
                  intro D a' w7 hI7 hall
                  obtain ⟨u, rfl, hX⟩ := hI7
                  have h9 := hX.s10 (hall 10 (by decide))
                  have HB7 := Lib.hid hX.bel
                  clear hX hall
                  dsimp only [NwAct]
                  rw [h9]
                  clear h9
                  have hbA : Below w7.heap.size w7 (w7.alloc (.cells zer64 5)) := (Below.refl _ _).alloc (Nat.le_refl _) _
                  have HD2 := Lib.hid ((hD.out.below HB7.out).below hbA)
                  have HO2 := Lib.hid (hO.out.trans (Only.of_below [y, gl, gk, gw] (below_trans2 HB7.out hbA)))
                  have HWR := Lib.hid (rwrite_any (w7.alloc (.cells zer64 5)) y gl gk gw d' (k : Int) (.slice (some ⟨w7.heap.size, 0, none⟩) 64 64) zS HD2.out zS_isB (zer64_sl w7))
                  have hmk := run_make64
                  clear hD hO hbA
                  go_wp2_with fail
                  refine HWR.out.mono ?_
                  rintro e w8 ⟨rfl, hD8, hO8⟩
                  have HD8 := Lib.hid hD8
                  have HO8 := Lib.hid (HO2.out.trans (hO8.mono (cs := [y, gl, gk, gw]) (fun k hk => by simp at hk ⊢; omega)))
                  have HI8 := Lib.hid (show (d'.wrote (k : Int) zS).l.length = n ∧ (d'.wrote (k : Int) zS).img.drop (k + 1) = d.img.drop (k + 1) from ⟨by rw [wrote_len]; exact hI.out.1, (wrote_drop d' k zS).trans (drop_next hI.out.2)⟩)
                  clear hD8 hO8 HWR hI
                  by_cases he : d'.wrE (k : Int) zS = 0
                  · have HP := Lib.hid (show wipeD (d.img.drop F) F false d = wipeD (d.img.drop (k + 1)) (k + 1) true (d'.wrote (k : Int) zS) from by rw [hp.out, HDR.out, wipeD, if_neg HBL.out, if_pos he])
                    clear hp
                    rw [he]
                    go_wp2
                    go_roundw
                    case rel => exact ⟨k + 1, true, _, by omega, hlt, by go_num, rfl, HP, HD8, HI8, HO8⟩
                    case measure => simp [intOf]; omega
                  · have heb : (d'.wrE (k : Int) zS == 0) = false := by rw [beq_eq_false_iff_ne]; exact he
                    have HP := Lib.hid (show wipeD (d.img.drop F) F false d = (d'.wrote (k : Int) zS, d'.wrE (k : Int) zS) from by rw [hp.out, HDR.out, wipeD, if_neg HBL.out, if_neg he])
                    have HE := Lib.hid he
                    clear hp he
                    generalize d'.wrE (k : Int) zS = er at *
                    go_wp2
                    go_ret2
                    exact ⟨.inr ⟨by rw [HO.out, HW.out, HP.out]; exact HE.out, by rw [HO.out, HW.out, HP.out]; rfl, by rw [HO.out, HW.out, HP.out]; exact HD8.out⟩, HBW.out.trans HO8.out⟩
            · obtain rfl : n = k := by omega
              have hkI : ¬ (n : Int) < (n : Int) := by omega
              have HP := Lib.hid (show wipeD (d.img.drop F) F false d = if x0 = true then (d'.synced, d'.chgE) else (d', 0) from by rw [hp.out, List.drop_eq_nil_of_le (by rw [HIL.out]; omega)]; rfl)
              have HS := Lib.hid (rsync_any wr y gl gk gw d' hD.out)
              clear hp k'
              cases x0 with
              | true =>
                go_wp2_with fail
                refine HS.out.mono ?_
                rintro e w8 ⟨rfl, hD8, hO8⟩
                have HD8 := Lib.hid hD8
                have HO8 := Lib.hid (hO.out.trans (hO8.mono (cs := [y, gl, gk, gw]) (fun k hk => by simp at hk ⊢; omega)))
                have HL8 := Lib.hid (show d'.synced.l.length = d.l.length from by rw [synced_len, hI.out.1, HNN.out])
                clear hD8 hO8 HS hO hI hD
                by_cases he : d'.chgE = 0
                · have HE := Lib.hid he
                  rw [he]
                  clear he
                  go_wp2
                  go_ret2
                  exact ⟨.inl ⟨by rw [HO.out, HW.out, HP.out]; exact HE.out, _, _, rfl, Nat.le_refl _, by rw [HO.out, HW.out, HP.out]; exact HLG.out.devOnly (Nat.le_refl _) HLT.out HO8.out HD8.out HL8.out⟩, HBW.out.trans HO8.out⟩
                · have heb : (d'.chgE == 0) = false := by rw [beq_eq_false_iff_ne]; exact he
                  have HE := Lib.hid he
                  clear he
                  generalize d'.chgE = er at *
                  go_wp2
                  go_ret2
                  exact ⟨.inr ⟨by rw [HO.out, HW.out, HP.out]; exact HE.out, by rw [HO.out, HW.out, HP.out]; rfl, by rw [HO.out, HW.out, HP.out]; exact HD8.out⟩, HBW.out.trans HO8.out⟩
              | false =>
                have HL8 := Lib.hid (show d'.l.length = d.l.length from by rw [hI.out.1, HNN.out])
                go_wp2
                go_ret2
                exact ⟨.inl ⟨by rw [HO.out, HW.out, HP.out]; rfl, _, _, rfl, Nat.le_refl _, by rw [HO.out, HW.out, HP.out]; exact HLG.out.devOnly (Nat.le_refl _) HLT.out hO.out hD.out HL8.out⟩, HBW.out.trans hO.out⟩
        | true =>
          obtain ⟨m, rfl, hnx, hob⟩ := HX3.out.1 rfl
          have HNE := Lib.hid hnx
          have hnl := nextI_le (fun p hp => H64.out p (List.mem_of_mem_drop hp)) hnx
          have hm1 := hnl.2.1
          have HBD := Lib.hid (bodyI_isB (fun p hp => HBB.out p (List.mem_of_mem_drop hp)) : IsB (bodyI (d.img.drop F)))
          have htb := TB.ofOB hob (by have := hnl.2.2; omega)
          generalize bodyI (d.img.drop F) = BD at *
          obtain ⟨G, hG⟩ : ∃ G, F + m = G := ⟨_, rfl⟩
          rw [hG]
          obtain ⟨tb, tf, tc, e, _⟩ := id htb
          cases e
          have HTB := Lib.hid htb
          have hbA : Below w3.heap.size w3 (w3.alloc (.cells #[.slice (some ⟨tb, tf, none⟩) BD.length rc] 26)) := (Below.refl _ _).alloc (Nat.le_refl _) _
          have HRA := Lib.hid (HRW.out.below hbA)
          have HTA := Lib.hid ((HTB.out.below hbA).base hszr)
          have HCA := Lib.hid ((Blk.new w3 26 #[.slice (some ⟨tb, tf, none⟩) BD.length rc]).cell 0)
          have HKA := Lib.hid (HKQ.out.belowS hbA)
          have HBA := Lib.hid (below_trans2 HB3.out hbA)
          have hL5 : L.length + 1 ≤ 5000000000000 := by omega
          have HL5 := Lib.hid hL5
          clear hnx htb hnl hbA hL5 HX3 hob
          go_wp2_with (at_builtin; refine wpList_append_tb rfl _ _ rfl w.heap.size _ L rfl HRA.out w3.heap.size 1 rfl (.slice (some ⟨tb, tf, none⟩) BD.length rc) HCA.out BD HTA.out HL5.out HBA.out.size ?_)
          intro v5 w5 hO5 hb5 hg5 _
          obtain ⟨v5a, v5n, v5c, rfl⟩ : ∃ a n c, v5 = Value.slice a n c := (by obtain ⟨a, c, e⟩ := hO5.val; exact ⟨a, _, c, e⟩)
          have hk5 : Blk w5 w.heap.size 97 #[.pointer (some ⟨y, 0, none⟩), .slice va L.length vc, .int .i64 F, .bool false] := HKA.out.grown hg5 (fun e => by
            obtain ⟨cur, kk⟩ := HRA.out.blk e.symm
            exact Blk.ne_ HKA.out kk (by decide) rfl)
          have hk6 := hk5.set_ 1 (.slice v5a v5n v5c)
          have hk7 := hk6.set_ 2 (.int .i64 (G : Int))
          have f1 := hk5.frozen 1
          have c15 : w5.cell? ⟨w.heap.size, 1, none⟩ = some (.slice va L.length vc) := hk5.cell 1
          have c6 : (w5.setCell ⟨w.heap.size, 1, none⟩ (.slice v5a v5n v5c)).cell? ⟨w.heap.size, 2, none⟩ = some (.int .i64 F) := hk6.cell 2
          have f6 := hk6.frozen 2
          have ho6 : Only [w.heap.size] w5 ((w5.setCell ⟨w.heap.size, 1, none⟩ (.slice v5a v5n v5c)).setCell ⟨w.heap.size, 2, none⟩ (.int .i64 (G : Int))) := (Only.setCell _ _ (by simp) _).trans (Only.setCell _ _ (by simp) _)
          have hr6 := hO5.only ho6 (fun k hk cur e => by
              obtain rfl : k = w.heap.size := by simpa using hk
              exact Blk.ne_ e hk5 (by decide) rfl) (fun k hk hm => by
              obtain rfl : k = w.heap.size := by simpa using hm
              obtain ⟨cur, kk⟩ := hO5.blk hk
              exact Blk.ne_ kk hk5 (by decide) rfl)
          have hB6 := Only.belowOf (HBA.out.trans hb5) ho6 (Nat.le_trans HBA.out.size hb5.size) (fun k hk => by obtain rfl : k = w.heap.size := (by simpa using hk); exact Nat.le_refl _)
          have HSC2 := Lib.hid (show Rc w ((w5.setCell ⟨w.heap.size, 1, none⟩ (.slice v5a v5n v5c)).setCell ⟨w.heap.size, 2, none⟩ (.int .i64 (G : Int))) w.heap.size y n G d.img (.slice v5a v5n v5c) (L ++ [BD]) from by
            rw [← hG]
            rw [← hG] at hk7 hr6 hB6
            exact HSQ.out.next HIL.out H64.out HNE.out HBD.out hk7 hr6 hB6)
          have hGj : j + 1 ≤ G := by omega
          clear hk5 hk6 hk7 ho6 hr6 hB6 hb5 hg5 hO5 hG hm1
          go_wp2
          go_roundw
          case rel => exact ⟨j + 1, G, (.slice v5a v5n v5c), L ++ [BD], hGj, hj, by go_num, HSC2⟩
          case measure => simp [intOf]; omega
      · obtain rfl : n = j := by omega
        obtain rfl : n = F := by omega
        have hjI : ¬ (n : Int) < (n : Int) := by omega
        have HSC := Lib.hid (scan_end hs.out (by rw [List.drop_eq_nil_of_le (by rw [HIL.out]; omega)]; exact next_nil))
        have HB3 := Lib.hid hs.out.bel
        have HKQ := Lib.hid hs.out.blk
        have HRW := Lib.hid hs.out.row
        have HTQ := Lib.hid (And.intro hs.out.cnt hs.out.isB)
        have c2 : wr.cell? ⟨w.heap.size, 2, none⟩ = some (.int .i64 n) := hs.out.blk.cell 2
        clear hs hjI hj hjn hjF
        obtain ⟨F, hFE⟩ : ∃ F, F = n := ⟨_, rfl⟩
        obtain ⟨w3, hw3⟩ : ∃ w3, w3 = wr := ⟨_, rfl⟩
        have hFn : F ≤ n := Nat.le_of_eq hFE
        rw [← hFE] at HKQ HSC HTQ c2
        rw [← hw3] at HB3 HKQ HRW c2 ⊢
        clear hw3 hFE
        have HW := Lib.hid (show d.wiped = wipeD (d.img.drop F) F false d from by unfold DSt.wiped; rw [HSC.out])
        have HLT := Lib.hid HD.out.lts
        have HDW := Lib.hid (HD.out.below HB3.out)
        have HLG := Lib.hid (show RLg w3 w.heap.size y gl gk gw w.heap.size (.slice va L.length vc) d.log d from by
          rw [show d.log = ⟨n, F, L, false⟩ from by unfold DSt.log; rw [HSC.out, HNN.out]]
          exact ⟨HKQ.out, HRW.out, HDW.out, HNN.out.symm, hFn, HTQ.out.1, HTQ.out.2⟩)
        have HBW := Lib.hid (Only.of_below [y, gl, gk, gw] HB3.out)
        clear HKQ HRW HTQ
        go_wp2
        go_loopw [8, 9] (fun x i wr => ∃ (k : Nat) (x0 : Bool) (d' : DSt), F ≤ k ∧ k ≤ n ∧ i = .int .i64 k ∧ x = .bool x0 ∧ Hid (wipeD (d.img.drop F) F false d = wipeD (d.img.drop k) k x0 d') ∧ Hid (RDev wr y gl gk gw d') ∧ Hid (d'.l.length = n ∧ d'.img.drop k = d.img.drop k) ∧ Hid (Only [y, gl, gk, gw] w3 wr)) (fun _ i _ => n - (intOf i).toNat)
        case atStart => exact ⟨F, false, d, Nat.le_refl _, hFn, rfl, rfl, Lib.hid rfl, HDW, Lib.hid ⟨HNN.out, rfl⟩, Lib.hid (Only.refl _ _)⟩
        case round =>
          obtain ⟨k, x0, d', hFk, hkn, rfl, rfl, hp, hD, hI, hO⟩ := hrel
          have HIL2 := Lib.hid (show d'.img.length = n from by rw [img_len, hI.out.1])
          obtain ⟨cl', ck', cw', hcl', _, _, k'⟩ := hD.out.blk
          rw [hI.out.1] at k' hcl'
          have c0 : wr.cell? ⟨y, 0, none⟩ = some (.slice (some ⟨gl, 0, none⟩) n cl') := k'.cell 0
          by_cases hlt : k < n
          · have hkI : (k : Int) < (n : Int) := by omega
            have HCY := Lib.hid (And.intro c0 k'.lt)
            obtain ⟨u, cu, hu⟩ := (show TRow wr gl d'.img from hD.out.rl).get (i := k) (by rw [HIL2.out]; exact hlt)
            have hgl : gl < wr.heap.size := by obtain ⟨_, kk⟩ := hD.out.rl.typ; exact kk.lt
            rw [drop_getD hI.out.2] at hu
            have HDR := Lib.hid (drop_getD_cons (X := d.img) (k := k) (by rw [HIL.out]; exact hlt))
            have HBK := Lib.hid (HBB.out (d.img.getD k []) (getD_mem (by rw [HIL.out]; exact hlt)))
            generalize d.img.getD k [] = sk at *
            obtain ⟨a9, n9, c9, e9⟩ := hu.sl.val
            subst e9
            have HSS := Lib.hid hu.sl
            have HCS := Lib.hid (And.intro cu hgl)
            clear hu cu hgl k'
            have HHI := Lib.hid (show (0 : Int) ≤ (k : Int) ∧ (k : Int) < (n : Int) by omega)
            by_cases hz : sk = zS
            · have HSE := Lib.hid (str_eq hz)
              have HP := Lib.hid (show wipeD (d.img.drop F) F false d = wipeD (d.img.drop (k + 1)) (k + 1) x0 d' from by rw [hp.out, HDR.out, wipeD, if_pos hz])
              clear hz
              go_upto_region 14 with (fail)
              refine wp_region_inv2 (NwInv y gl n cl' k (.slice a9 n9 c9) sk false (undef) (u2) (u3) (.pointer (some ⟨w.heap.size, 0, none⟩)) (u5) (u6) (u7) (.bool x0) (u10) (undef) (.pointer (some ⟨y, 0, none⟩)) (.pointer (some ⟨y, 0, none⟩)) (.pointer (some ⟨y, 4, none⟩)) (.bool false) (.pointer (some ⟨y, 0, none⟩)) (.agg #[.pointer (some ⟨y, 0, none⟩), .slice none 0 0, .int .i64 0, .bool false]) (.pointer (some ⟨w.heap.size, 0, none⟩)) (.pointer (some ⟨y, 0, none⟩)) (.pointer (some ⟨y, 0, none⟩)) (.pointer (some ⟨y, 0, none⟩)) (.slice (some ⟨gl, 0, none⟩) n cl) (.int .i64 (n : Int)) (.int .i64 (n : Int)) (.bool false) (u26) (u27) (u28) (u29) (u30) (u31) (u32) (u33) (u34) (u35) (u36) (u37) (u38) (u39) (u40) (u41) (u42) (u43) (u44) (u45) (u46) (u47) (u48) (u49) (u50) (u51) (u52) (u53) (u54) (u55) (u56) (u57) (u58) (.pointer (some ⟨w.heap.size, 0, none⟩)) (.pointer (some ⟨w.heap.size, 0, none⟩)) (.pointer (some ⟨w.heap.size, 2, none⟩)) (.int .i64 (F : Int)) (.int .i64 (k : Int)) (.pointer (some ⟨y, 0, none⟩)) (.pointer (some ⟨y, 0, none⟩)) (.pointer (some ⟨y, 0, none⟩)) (.slice (some ⟨gl, 0, none⟩) n cl') (.int .i64 (n : Int)) (.bool true) (u70) (u71) (u83) (u84) (u85) (u86) (u87) (u88) (u89) (undef) (undef) (undef) (undef) (undef) (undef) (undef) wr) (by kernel_rfl) (by kernel_rfl) ?start ?step ?fin
              case start => exact ⟨(fun i => [u72, u73, u74, u75, u76, u77, u78, u79, u80, u81, u82].getD (i - 72) undef), rfl, ⟨(Below.refl _ _).drew, (fun q => by cases q), (fun q => by cases q), (fun q => by cases q), (fun q => by cases q), (fun q => by cases q), (fun q => by cases q), (fun q => by cases q), (fun q => by cases q), (fun q => by cases q), (fun q => by cases q), (fun q => by cases q)⟩⟩
              case step =>
                intro D a w i hi hI hD hcl hn
                obtain ⟨u, rfl, hX⟩ := hI
                have hi' : i < 11 := hi
                clear hi
                rcases (show i = 0 ∨ i = 1 ∨ i = 2 ∨ i = 3 ∨ i = 4 ∨ i = 5 ∨ i = 6 ∨ i = 7 ∨ i = 8 ∨ i = 9 ∨ i = 10 from by omega) with rfl | rfl | rfl | rfl | rfl | rfl | rfl | rfl | rfl | rfl | rfl
                · refine wpOp_plain rfl rfl ?_
                  go_simp
                  exact ⟨upd u 72 (.pointer (some ⟨y, 0, none⟩)), rfl, ⟨hX.bel, fun _ => rfl, fun h => hX.s1 h, fun h => hX.s2 h, fun h => hX.s3 h, fun h => hX.s4 h, fun h => hX.s5 h, fun h => hX.s6 h, fun h => hX.s7 h, fun h => hX.s8 h, fun h => hX.s9 h, fun h => hX.s10 h⟩⟩
                · have d0 : D 0 = true := hn 0 (needs_re (by kernel_rfl))
                  have f0 := hX.s0 d0
                  refine wpOp_plain rfl rfl ?_
                  go_simp
                  exact ⟨upd u 73 (.pointer (some ⟨y, 0, none⟩)), (by simp [upd, f0]), ⟨hX.bel, fun h => hX.s0 h, fun _ => rfl, fun h => hX.s2 h, fun h => hX.s3 h, fun h => hX.s4 h, fun h => hX.s5 h, fun h => hX.s6 h, fun h => hX.s7 h, fun h => hX.s8 h, fun h => hX.s9 h, fun h => hX.s10 h⟩⟩
                · have d1 : D 1 = true := hn 1 (needs_re (by kernel_rfl))
                  have f1 := hX.s1 d1
                  refine wpOp_plain rfl rfl ?_
                  go_simp
                  exact ⟨upd u 74 (.pointer (some ⟨y, 0, none⟩)), (by simp [upd, f1]), ⟨hX.bel, fun h => hX.s0 h, fun h => hX.s1 h, fun _ => rfl, fun h => hX.s3 h, fun h => hX.s4 h, fun h => hX.s5 h, fun h => hX.s6 h, fun h => hX.s7 h, fun h => hX.s8 h, fun h => hX.s9 h, fun h => hX.s10 h⟩⟩
                · have d2 : D 2 = true := hn 2 (needs_re (by kernel_rfl))
                  have f2 := hX.s2 d2
                  have cy := (hX.bel.cell (p := ⟨y, 0, none⟩) HCY.out.2).trans HCY.out.1
                  refine wpOp_plain rfl rfl ?_
                  go_simp
                  exact ⟨upd u 75 (.slice (some ⟨gl, 0, none⟩) n cl'), (by simp [upd, f2]), ⟨hX.bel, fun h => hX.s0 h, fun h => hX.s1 h, fun h => hX.s2 h, fun _ => rfl, fun h => hX.s4 h, fun h => hX.s5 h, fun h => hX.s6 h, fun h => hX.s7 h, fun h => hX.s8 h, fun h => hX.s9 h, fun h => hX.s10 h⟩⟩
                · refine wpOp_plain rfl rfl ?_
                  go_simp
                  exact ⟨upd u 76 (.int .i64 k), rfl, ⟨hX.bel, fun h => hX.s0 h, fun h => hX.s1 h, fun h => hX.s2 h, fun h => hX.s3 h, fun _ => rfl, fun h => hX.s5 h, fun h => hX.s6 h, fun h => hX.s7 h, fun h => hX.s8 h, fun h => hX.s9 h, fun h => hX.s10 h⟩⟩
                · have d3 : D 3 = true := hn 3 (needs_re (by kernel_rfl))
                  have f3 := hX.s3 d3
                  have d4 : D 4 = true := hn 4 (needs_re (by kernel_rfl))
                  have f4 := hX.s4 d4
                  refine wpOp_plain rfl rfl ?_
                  go_simp
                  exact ⟨upd u 77 (.pointer (some ⟨gl, k, none⟩)), (by simp [upd, f3, f4]), ⟨hX.bel, fun h => hX.s0 h, fun h => hX.s1 h, fun h => hX.s2 h, fun h => hX.s3 h, fun h => hX.s4 h, fun _ => rfl, fun h => hX.s6 h, fun h => hX.s7 h, fun h => hX.s8 h, fun h => hX.s9 h, fun h => hX.s10 h⟩⟩
                · have d5 : D 5 = true := hn 5 (needs_re (by kernel_rfl))
                  have f5 := hX.s5 d5
                  have cs := (hX.bel.cell (p := ⟨gl, k, none⟩) HCS.out.2).trans HCS.out.1
                  refine wpOp_plain rfl rfl ?_
                  go_simp
                  exact ⟨upd u 78 (.slice a9 n9 c9), (by simp [upd, f5]), ⟨hX.bel, fun h => hX.s0 h, fun h => hX.s1 h, fun h => hX.s2 h, fun h => hX.s3 h, fun h => hX.s4 h, fun h => hX.s5 h, fun _ => rfl, fun h => hX.s7 h, fun h => hX.s8 h, fun h => hX.s9 h, fun h => hX.s10 h⟩⟩
                · have d6 : D 6 = true := hn 6 (needs_re (by kernel_rfl))
                  have f6 := hX.s6 d6
                  have hcv := (HSS.out.below hX.bel (Nat.le_refl _)).conv
                  refine wpOp_plain rfl rfl ?_
                  go_simp
                  exact ⟨upd u 79 (.string (strOfNums sk)), (by simp [upd, f6]), ⟨hX.bel, fun h => hX.s0 h, fun h => hX.s1 h, fun h => hX.s2 h, fun h => hX.s3 h, fun h => hX.s4 h, fun h => hX.s5 h, fun h => hX.s6 h, fun _ => rfl, fun h => hX.s8 h, fun h => hX.s9 h, fun h => hX.s10 h⟩⟩
                · have hmk := run_make64 w
                  refine wpOp_plain rfl rfl ?_
                  go_simp
                  have hb2 : Below w.heap.size w (w.alloc (.cells zer64 5)) := (Below.refl _ _).alloc (Nat.le_refl _) _
                  have hX := hX.grow hb2
                  exact ⟨upd u 80 (.slice (some ⟨w.heap.size, 0, none⟩) 64 64), rfl, ⟨hX.bel, fun h => hX.s0 h, fun h => hX.s1 h, fun h => hX.s2 h, fun h => hX.s3 h, fun h => hX.s4 h, fun h => hX.s5 h, fun h => hX.s6 h, fun h => hX.s7 h, fun _ => zer64_sl w, fun h => hX.s9 h, fun h => hX.s10 h⟩⟩
                · have d8 : D 8 = true := hn 8 (needs_re (by kernel_rfl))
                  have f8 := hX.s8 d8
                  have hcv := f8.conv
                  refine wpOp_plain rfl rfl ?_
                  go_simp
                  exact ⟨upd u 81 (.string (strOfNums zS)), rfl, ⟨hX.bel, fun h => hX.s0 h, fun h => hX.s1 h, fun h => hX.s2 h, fun h => hX.s3 h, fun h => hX.s4 h, fun h => hX.s5 h, fun h => hX.s6 h, fun h => hX.s7 h, fun h => hX.s8 h, fun _ => rfl, fun h => hX.s10 h⟩⟩
                · have d7 : D 7 = true := hn 7 (needs_re (by kernel_rfl))
                  have f7 := hX.s7 d7
                  have d9 : D 9 = true := hn 9 (needs_re (by kernel_rfl))
                  have f9 := hX.s9 d9
                  have hse := HSE.out
                  refine wpOp_plain rfl rfl ?_
                  go_simp
                  exact ⟨upd u 82 (.bool false), (by simp [upd, f7, f9]), ⟨hX.bel, fun h => hX.s0 h, fun h => hX.s1 h, fun h => hX.s2 h, fun h => hX.s3 h, fun h => hX.s4 h, fun h => hX.s5 h, fun h => hX.s6 h, fun h => hX.s7 h, fun h => hX.s8 h, fun h => hX.s9 h, fun _ => rfl⟩⟩
              case fin =>
                intro D a' w7 hI7 hall
                obtain ⟨u, rfl, hX⟩ := hI7
                have h9 := hX.s10 (hall 10 (by decide))
                have HB7 := Lib.hid hX.bel
                clear hX hall
                dsimp only [NwAct]
                rw [h9]
                clear h9
                have HD2 := Lib.hid (hD.out.below HB7.out)
                have HI2 := Lib.hid (And.intro hI.out.1 (drop_next hI.out.2))
                have HO2 := Lib.hid (hO.out.trans (Only.of_below [y, gl, gk, gw] HB7.out))
                clear hp hD hI hO
                go_wp2
                go_roundw
                case rel => exact ⟨k + 1, x0, d', by omega, hlt, by go_num, rfl, HP, HD2, HI2, HO2⟩
                case measure => simp [intOf]; omega
            · have HSE := Lib.hid (str_ne HBK.out zS_isB hz)
              have HBL := Lib.hid hz
              clear hz
              go_upto_region 14 with (fail)
              refine wp_region_inv2 (NwInv y gl n cl' k (.slice a9 n9 c9) sk true (undef) (u2) (u3) (.pointer (some ⟨w.heap.size, 0, none⟩)) (u5) (u6) (u7) (.bool x0) (u10) (undef) (.pointer (some ⟨y, 0, none⟩)) (.pointer (some ⟨y, 0, none⟩)) (.pointer (some ⟨y, 4, none⟩)) (.bool false) (.pointer (some ⟨y, 0, none⟩)) (.agg #[.pointer (some ⟨y, 0, none⟩), .slice none 0 0, .int .i64 0, .bool false]) (.pointer (some ⟨w.heap.size, 0, none⟩)) (.pointer (some ⟨y, 0, none⟩)) (.pointer (some ⟨y, 0, none⟩)) (.pointer (some ⟨y, 0, none⟩)) (.slice (some ⟨gl, 0, none⟩) n cl) (.int .i64 (n : Int)) (.int .i64 (n : Int)) (.bool false) (u26) (u27) (u28) (u29) (u30) (u31) (u32) (u33) (u34) (u35) (u36) (u37) (u38) (u39) (u40) (u41) (u42) (u43) (u44) (u45) (u46) (u47) (u48) (u49) (u50) (u51) (u52) (u53) (u54) (u55) (u56) (u57) (u58) (.pointer (some ⟨w.heap.size, 0, none⟩)) (.pointer (some ⟨w.heap.size, 0, none⟩)) (.pointer (some ⟨w.heap.size, 2, none⟩)) (.int .i64 (F : Int)) (.int .i64 (k : Int)) (.pointer (some ⟨y, 0, none⟩)) (.pointer (some ⟨y, 0, none⟩)) (.pointer (some ⟨y, 0, none⟩)) (.slice (some ⟨gl, 0, none⟩) n cl') (.int .i64 (n : Int)) (.bool true) (u70) (u71) (u83) (u84) (u85) (u86) (u87) (u88) (u89) (undef) (undef) (undef) (undef) (undef) (undef) (undef) wr) (by kernel_rfl) (by kernel_rfl) ?start ?step ?fin
              case start => exact ⟨(fun i => [u72, u73, u74, u75, u76, u77, u78, u79, u80, u81, u82].getD (i - 72) undef), rfl, ⟨(Below.refl _ _).drew, (fun q => by cases q), (fun q => by cases q), (fun q => by cases q), (fun q => by cases q), (fun q => by cases q), (fun q => by cases q), (fun q => by cases q), (fun q => by cases q), (fun q => by cases q), (fun q => by cases q), (fun q => by cases q)⟩⟩
              case step =>
                intro D a w i hi hI hD hcl hn
                obtain ⟨u, rfl, hX⟩ := hI
                have hi' : i < 11 := hi
                clear hi
                rcases (show i = 0 ∨ i = 1 ∨ i = 2 ∨ i = 3 ∨ i = 4 ∨ i = 5 ∨ i = 6 ∨ i = 7 ∨ i = 8 ∨ i = 9 ∨ i = 10 from by omega) with rfl | rfl | rfl | rfl | rfl | rfl | rfl | rfl | rfl | rfl | rfl
                · refine wpOp_plain rfl rfl ?_
                  go_simp
                  exact ⟨upd u 72 (.pointer (some ⟨y, 0, none⟩)), rfl, ⟨hX.bel, fun _ => rfl, fun h => hX.s1 h, fun h => hX.s2 h, fun h => hX.s3 h, fun h => hX.s4 h, fun h => hX.s5 h, fun h => hX.s6 h, fun h => hX.s7 h, fun h => hX.s8 h, fun h => hX.s9 h, fun h => hX.s10 h⟩⟩
                · have d0 : D 0 = true := hn 0 (needs_re (by kernel_rfl))
                  have f0 := hX.s0 d0
                  refine wpOp_plain rfl rfl ?_
                  go_simp
                  exact ⟨upd u 73 (.pointer (some ⟨y, 0, none⟩)), (by simp [upd, f0]), ⟨hX.bel, fun h => hX.s0 h, fun _ => rfl, fun h => hX.s2 h, fun h => hX.s3 h, fun h => hX.s4 h, fun h => hX.s5 h, fun h => hX.s6 h, fun h => hX.s7 h, fun h => hX.s8 h, fun h => hX.s9 h, fun h => hX.s10 h⟩⟩
                · have d1 : D 1 = true := hn 1 (needs_re (by kernel_rfl))
                  have f1 := hX.s1 d1
                  refine wpOp_plain rfl rfl ?_
                  go_simp
                  exact ⟨upd u 74 (.pointer (some ⟨y, 0, none⟩)), (by simp [upd, f1]), ⟨hX.bel, fun h => hX.s0 h, fun h => hX.s1 h, fun _ => rfl, fun h => hX.s3 h, fun h => hX.s4 h, fun h => hX.s5 h, fun h => hX.s6 h, fun h => hX.s7 h, fun h => hX.s8 h, fun h => hX.s9 h, fun h => hX.s10 h⟩⟩
                · have d2 : D 2 = true := hn 2 (needs_re (by kernel_rfl))
                  have f2 := hX.s2 d2
                  have cy := (hX.bel.cell (p := ⟨y, 0, none⟩) HCY.out.2).trans HCY.out.1
                  refine wpOp_plain rfl rfl ?_
                  go_simp
                  exact ⟨upd u 75 (.slice (some ⟨gl, 0, none⟩) n cl'), (by simp [upd, f2]), ⟨hX.bel, fun h => hX.s0 h, fun h => hX.s1 h, fun h => hX.s2 h, fun _ => rfl, fun h => hX.s4 h, fun h => hX.s5 h, fun h => hX.s6 h, fun h => hX.s7 h, fun h => hX.s8 h, fun h => hX.s9 h, fun h => hX.s10 h⟩⟩
                · refine wpOp_plain rfl rfl ?_
                  go_simp
                  exact ⟨upd u 76 (.int .i64 k), rfl, ⟨hX.bel, fun h => hX.s0 h, fun h => hX.s1 h, fun h => hX.s2 h, fun h => hX.s3 h, fun _ => rfl, fun h => hX.s5 h, fun h => hX.s6 h, fun h => hX.s7 h, fun h => hX.s8 h, fun h => hX.s9 h, fun h => hX.s10 h⟩⟩
                · have d3 : D 3 = true := hn 3 (needs_re (by kernel_rfl))
                  have f3 := hX.s3 d3
                  have d4 : D 4 = true := hn 4 (needs_re (by kernel_rfl))
                  have f4 := hX.s4 d4
                  refine wpOp_plain rfl rfl ?_
                  go_simp
                  exact ⟨upd u 77 (.pointer (some ⟨gl, k, none⟩)), (by simp [upd, f3, f4]), ⟨hX.bel, fun h => hX.s0 h, fun h => hX.s1 h, fun h => hX.s2 h, fun h => hX.s3 h, fun h => hX.s4 h, fun _ => rfl, fun h => hX.s6 h, fun h => hX.s7 h, fun h => hX.s8 h, fun h => hX.s9 h, fun h => hX.s10 h⟩⟩
                · have d5 : D 5 = true := hn 5 (needs_re (by kernel_rfl))
                  have f5 := hX.s5 d5
                  have cs := (hX.bel.cell (p := ⟨gl, k, none⟩) HCS.out.2).trans HCS.out.1
                  refine wpOp_plain rfl rfl ?_
                  go_simp
                  exact ⟨upd u 78 (.slice a9 n9 c9), (by simp [upd, f5]), ⟨hX.bel, fun h => hX.s0 h, fun h => hX.s1 h, fun h => hX.s2 h, fun h => hX.s3 h, fun h => hX.s4 h, fun h => hX.s5 h, fun _ => rfl, fun h => hX.s7 h, fun h => hX.s8 h, fun h => hX.s9 h, fun h => hX.s10 h⟩⟩
                · have d6 : D 6 = true := hn 6 (needs_re (by kernel_rfl))
                  have f6 := hX.s6 d6
                  have hcv := (HSS.out.below hX.bel (Nat.le_refl _)).conv
                  refine wpOp_plain rfl rfl ?_
                  go_simp
                  exact ⟨upd u 79 (.string (strOfNums sk)), (by simp [upd, f6]), ⟨hX.bel, fun h => hX.s0 h, fun h => hX.s1 h, fun h => hX.s2 h, fun h => hX.s3 h, fun h => hX.s4 h, fun h => hX.s5 h, fun h => hX.s6 h, fun _ => rfl, fun h => hX.s8 h, fun h => hX.s9 h, fun h => hX.s10 h⟩⟩
                · have hmk := run_make64 w
                  refine wpOp_plain rfl rfl ?_
                  go_simp
                  have hb2 : Below w.heap.size w (w.alloc (.cells zer64 5)) := (Below.refl _ _).alloc (Nat.le_refl _) _
                  have hX := hX.grow hb2
                  exact ⟨upd u 80 (.slice (some ⟨w.heap.size, 0, none⟩) 64 64), rfl, ⟨hX.bel, fun h => hX.s0 h, fun h => hX.s1 h, fun h => hX.s2 h, fun h => hX.s3 h, fun h => hX.s4 h, fun h => hX.s5 h, fun h => hX.s6 h, fun h => hX.s7 h, fun _ => zer64_sl w, fun h => hX.s9 h, fun h => hX.s10 h⟩⟩
                · have d8 : D 8 = true := hn 8 (needs_re (by kernel_rfl))
                  have f8 := hX.s8 d8
                  have hcv := f8.conv
                  refine wpOp_plain rfl rfl ?_
                  go_simp
                  exact ⟨upd u 81 (.string (strOfNums zS)), rfl, ⟨hX.bel, fun h => hX.s0 h, fun h => hX.s1 h, fun h => hX.s2 h, fun h => hX.s3 h, fun h => hX.s4 h, fun h => hX.s5 h, fun h => hX.s6 h, fun h => hX.s7 h, fun h => hX.s8 h, fun _ => rfl, fun h => hX.s10 h⟩⟩
                · have d7 : D 7 = true := hn 7 (needs_re (by kernel_rfl))
                  have f7 := hX.s7 d7
                  have d9 : D 9 = true := hn 9 (needs_re (by kernel_rfl))
                  have f9 := hX.s9 d9
                  have hse := HSE.out
                  refine wpOp_plain rfl rfl ?_
                  go_simp
                  exact ⟨upd u 82 (.bool true), (by simp [upd, f7, f9]), ⟨hX.bel, fun h => hX.s0 h, fun h => hX.s1 h, fun h => hX.s2 h, fun h => hX.s3 h, fun h => hX.s4 h, fun h => hX.s5 h, fun h => hX.s6 h, fun h => hX.s7 h, fun h => hX.s8 h, fun h => hX.s9 h, fun _ => rfl⟩⟩
              case fin =>
                intro D a' w7 hI7 hall
                obtain ⟨u, rfl, hX⟩ := hI7
                have h9 := hX.s10 (hall 10 (by decide))
                have HB7 := Lib.hid hX.bel
                clear hX hall
                dsimp only [NwAct]
                rw [h9]
                clear h9
                have hbA : Below w7.heap.size w7 (w7.alloc (.cells zer64 5)) := (Below.refl _ _).alloc (Nat.le_refl _) _
                have HD2 := Lib.hid ((hD.out.below HB7.out).below hbA)
                have HO2 := Lib.hid (hO.out.trans (Only.of_below [y, gl, gk, gw] (below_trans2 HB7.out hbA)))
                have HWR := Lib.hid (rwrite_any (w7.alloc (.cells zer64 5)) y gl gk gw d' (k : Int) (.slice (some ⟨w7.heap.size, 0, none⟩) 64 64) zS HD2.out zS_isB (zer64_sl w7))
                have hmk := run_make64
                clear hD hO hbA
                go_wp2_with fail
                refine HWR.out.mono ?_
                rintro e w8 ⟨rfl, hD8, hO8⟩
                have HD8 := Lib.hid hD8
                have HO8 := Lib.hid (HO2.out.trans (hO8.mono (cs := [y, gl, gk, gw]) (fun k hk => by simp at hk ⊢; omega)))
                have HI8 := Lib.hid (show (d'.wrote (k : Int) zS).l.length = n ∧ (d'.wrote (k : Int) zS).img.drop (k + 1) = d.img.drop (k + 1) from ⟨by rw [wrote_len]; exact hI.out.1, (wrote_drop d' k zS).trans (drop_next hI.out.2)⟩)
                clear hD8 hO8 HWR hI
                by_cases he : d'.wrE (k : Int) zS = 0
                · have HP := Lib.hid (show wipeD (d.img.drop F) F false d = wipeD (d.img.drop (k + 1)) (k + 1) true (d'.wrote (k : Int) zS) from by rw [hp.out, HDR.out, wipeD, if_neg HBL.out, if_pos he])
                  clear hp
                  rw [he]
                  go_wp2
                  go_roundw
                  case rel => exact ⟨k + 1, true, _, by omega, hlt, by go_num, rfl, HP, HD8, HI8, HO8⟩
                  case measure => simp [intOf]; omega
                · have heb : (d'.wrE (k : Int) zS == 0) = false := by rw [beq_eq_false_iff_ne]; exact he
                  have HP := Lib.hid (show wipeD (d.img.drop F) F false d = (d'.wrote (k : Int) zS, d'.wrE (k : Int) zS) from by rw [hp.out, HDR.out, wipeD, if_neg HBL.out, if_neg he])
                  have HE := Lib.hid he
                  clear hp he
                  generalize d'.wrE (k : Int) zS = er at *
                  go_wp2
                  go_ret2
                  exact ⟨.inr ⟨by rw [HO.out, HW.out, HP.out]; exact HE.out, by rw [HO.out, HW.out, HP.out]; rfl, by rw [HO.out, HW.out, HP.out]; exact HD8.out⟩, HBW.out.trans HO8.out⟩
          · obtain rfl : n = k := by omega
            have hkI : ¬ (n : Int) < (n : Int) := by omega
            have HP := Lib.hid (show wipeD (d.img.drop F) F false d = if x0 = true then (d'.synced, d'.chgE) else (d', 0) from by rw [hp.out, List.drop_eq_nil_of_le (by rw [HIL.out]; omega)]; rfl)
            have HS := Lib.hid (rsync_any wr y gl gk gw d' hD.out)
            clear hp k'
            cases x0 with
            | true =>
              go_wp2_with fail
              refine HS.out.mono ?_
              rintro e w8 ⟨rfl, hD8, hO8⟩
              have HD8 := Lib.hid hD8
              have HO8 := Lib.hid (hO.out.trans (hO8.mono (cs := [y, gl, gk, gw]) (fun k hk => by simp at hk ⊢; omega)))
              have HL8 := Lib.hid (show d'.synced.l.length = d.l.length from by rw [synced_len, hI.out.1, HNN.out])
              clear hD8 hO8 HS hO hI hD
              by_cases he : d'.chgE = 0
              · have HE := Lib.hid he
                rw [he]
                clear he
                go_wp2
                go_ret2
                exact ⟨.inl ⟨by rw [HO.out, HW.out, HP.out]; exact HE.out, _, _, rfl, Nat.le_refl _, by rw [HO.out, HW.out, HP.out]; exact HLG.out.devOnly (Nat.le_refl _) HLT.out HO8.out HD8.out HL8.out⟩, HBW.out.trans HO8.out⟩
              · have heb : (d'.chgE == 0) = false := by rw [beq_eq_false_iff_ne]; exact he
                have HE := Lib.hid he
                clear he
                generalize d'.chgE = er at *
                go_wp2
                go_ret2
                exact ⟨.inr ⟨by rw [HO.out, HW.out, HP.out]; exact HE.out, by rw [HO.out, HW.out, HP.out]; rfl, by rw [HO.out, HW.out, HP.out]; exact HD8.out⟩, HBW.out.trans HO8.out⟩
            | false =>
              have HL8 := Lib.hid (show d'.l.length = d.l.length from by rw [hI.out.1, HNN.out])
              go_wp2
              go_ret2
              exact ⟨.inl ⟨by rw [HO.out, HW.out, HP.out]; rfl, _, _, rfl, Nat.le_refl _, by rw [HO.out, HW.out, HP.out]; exact HLG.out.devOnly (Nat.le_refl _) HLT.out hO.out hD.out HL8.out⟩, HBW.out.trans hO.out⟩

end Go.Proofs.YtgfkejecigefbaaDoor

namespace Go.Proofs.YtgfkejecigefbaaDoor
open Go.RowKit
set_option linter.unusedVariables false

/-- No device: nil, or one that no call made. -/
def NoDev (w : World) (a : Option Addr) : Prop := a = none ∨ ∃ g, a = some ⟨g, 0, none⟩ ∧ w.cell? ⟨g, 0, none⟩ = some (.slice none 0 0)
theorem NoDev.nil (w : World) : NoDev w none := .inl rfl

theorem nnone_any (w : World) (a : Option Addr) (h : NoDev w a) : Calls Tryd.prog 42 #[.pointer a] w fun e w' => e = .returned (.bool true) ∧ w = w' := by
  rcases h with rfl | ⟨g, rfl, c0⟩
  · go_enter Tryd.func42, Tryd.ntmps42
    go_wp2
    go_ret
    exact ⟨rfl, rfl⟩
  · go_enter Tryd.func42, Tryd.ntmps42
    go_wp2
    go_ret
    exact ⟨rfl, rfl⟩
theorem nat_any (w : World) (a : Option Addr) (i : Int) (h : NoDev w a) : Calls Tryd.prog 86 #[.pointer a, .int .i64 i] w fun e w' => e = .returned (.int .i64 2) ∧ w = w' := by
  have HN := Lib.hid (nnone_any w a h)
  clear h
  go_enter Tryd.func86, Tryd.ntmps86
  go_wp2_with fail
  refine HN.out.mono ?_
  rintro e w1 ⟨rfl, rfl⟩
  go_wp2
  go_ret
  exact ⟨rfl, rfl⟩
theorem nwrite_any (w : World) (a : Option Addr) (i : Int) (va : Option Addr) (vn vc : Nat) (h : NoDev w a) : Calls Tryd.prog 62 #[.pointer a, .int .i64 i, .slice va vn vc] w fun e w' => e = .returned (.int .i64 2) ∧ w = w' := by
  have HN := Lib.hid (nat_any w a i h)
  clear h
  go_enter Tryd.func62, Tryd.ntmps62
  go_wp2_with fail
  refine HN.out.mono ?_
  rintro e w1 ⟨rfl, rfl⟩
  go_wp2
  first | go_ret | go_ret2
  exact ⟨rfl, rfl⟩
theorem nsync_any (w : World) (a : Option Addr) (h : NoDev w a) : Calls Tryd.prog 63 #[.pointer a] w fun e w' => e = .returned (.int .i64 2) ∧ w = w' := by
  have HN := Lib.hid (nnone_any w a h)
  clear h
  go_enter Tryd.func63, Tryd.ntmps63
  go_wp2_with fail
  refine HN.out.mono ?_
  rintro e w1 ⟨rfl, rfl⟩
  go_wp2
  first | go_ret | go_ret2
  exact ⟨rfl, rfl⟩
theorem nfuse_any (w : World) (a : Option Addr) (i : Int) (h : NoDev w a) : Calls Tryd.prog 19 #[.pointer a, .int .i64 i] w fun e w' => e = .returned (.int .i64 2) ∧ w = w' := by
  have HN := Lib.hid (nnone_any w a h)
  clear h
  go_enter Tryd.func19, Tryd.ntmps19
  go_wp2_with fail
  refine HN.out.mono ?_
  rintro e w1 ⟨rfl, rfl⟩
  go_wp2
  first | go_ret | go_ret2
  exact ⟨rfl, rfl⟩
theorem ncrash_any (w : World) (a : Option Addr) (va : Option Addr) (vn vc : Nat) (h : NoDev w a) : Calls Tryd.prog 20 #[.pointer a, .slice va vn vc] w fun e w' => e = .returned (.int .i64 2) ∧ w = w' := by
  have HN := Lib.hid (nnone_any w a h)
  clear h
  go_enter Tryd.func20, Tryd.ntmps20
  go_wp2_with fail
  refine HN.out.mono ?_
  rintro e w1 ⟨rfl, rfl⟩
  go_wp2
  first | go_ret | go_ret2
  exact ⟨rfl, rfl⟩
theorem ndead_any (w : World) (a : Option Addr) (h : NoDev w a) : Calls Tryd.prog 38 #[.pointer a] w fun e w' => e = .returned (.bool true) ∧ w = w' := by
  have HN := Lib.hid (nnone_any w a h)
  clear h
  go_enter Tryd.func38, Tryd.ntmps38
  go_wp2_with fail
  refine HN.out.mono ?_
  rintro e w1 ⟨rfl, rfl⟩
  go_wp2
  first | go_ret | go_ret2
  exact ⟨rfl, rfl⟩
theorem nwaits_any (w : World) (a : Option Addr) (h : NoDev w a) : Calls Tryd.prog 43 #[.pointer a] w fun e w' => e = .returned (.slice none 0 0) ∧ w = w' := by
  have HN := Lib.hid (nnone_any w a h)
  clear h
  go_enter Tryd.func43, Tryd.ntmps43
  go_wp2_with fail
  refine HN.out.mono ?_
  rintro e w1 ⟨rfl, rfl⟩
  go_wp2
  first | go_ret | go_ret2
  exact ⟨rfl, rfl⟩
theorem nimage_any (w : World) (a : Option Addr) (h : NoDev w a) : Calls Tryd.prog 27 #[.pointer a] w fun e w' => e = .returned (.slice none 0 0) ∧ w = w' := by
  have HN := Lib.hid (nnone_any w a h)
  clear h
  go_enter Tryd.func27, Tryd.ntmps27
  go_wp2_with fail
  refine HN.out.mono ?_
  rintro e w1 ⟨rfl, rfl⟩
  go_wp2
  first | go_ret | go_ret2
  exact ⟨rfl, rfl⟩
theorem nchanges_any (w : World) (a : Option Addr) (h : NoDev w a) : Calls Tryd.prog 69 #[.pointer a] w fun e w' => e = .returned (.int .i64 0) ∧ w = w' := by
  have HN := Lib.hid (nnone_any w a h)
  clear h
  go_enter Tryd.func69, Tryd.ntmps69
  go_wp2_with fail
  refine HN.out.mono ?_
  rintro e w1 ⟨rfl, rfl⟩
  go_wp2
  first | go_ret | go_ret2
  exact ⟨rfl, rfl⟩

end Go.Proofs.YtgfkejecigefbaaDoor

namespace Go.Proofs.YtgfkejecigefbaaDoor
open Go.RowKit
set_option linter.unusedVariables false

theorem Sl.far {ds : List Nat} {w w' : World} {b o n c : Nat} {xs : List Value} (h : Sl w (.slice (some ⟨b, o, none⟩) n c) xs) (ho : Only ds w w') (hn : b ∉ ds) : Sl w' (.slice (some ⟨b, o, none⟩) n c) xs := by
  obtain ⟨a, c', e, h1, h2, h3⟩ := h
  cases e
  refine ⟨_, c, rfl, h1, h2, fun hp => ?_⟩
  obtain ⟨b', o', e, hlt, hc⟩ := h3 hp
  cases e
  exact ⟨b, o, rfl, Nat.lt_of_lt_of_le hlt ho.size, fun j u hu => (ho.cell (p := ⟨b, o + j, none⟩) hlt hn).trans (hc j u hu)⟩
theorem Lg.lts {w : World} {q g b B : Nat} {v : Value} {s : LSt} {d : DSt} (h : Lg w q g b B v s d) : ∀ k ∈ q :: g :: b :: v.ownBlock.toList, k < w.heap.size := by
  obtain ⟨cap, _, _, k1⟩ := h.dev.blk
  obtain ⟨c2, k2⟩ := h.dev.row.typ
  intro k hk
  simp only [List.mem_cons, Option.mem_toList] at hk
  rcases hk with rfl | rfl | rfl | hk
  · exact h.blk.lt
  · exact k1.lt
  · exact k2.lt
  · exact (h.row.low hk).2
/-- Where Open has said OK. -/
theorem OpenP.ok {w w' : World} {g b : Nat} {d : DSt} {e : Ending} (h : OpenP w w' g b d e) (he : d.opened.2 = 0) : ∃ q v, e = .returned (.tuple #[.pointer (some ⟨q, 0, none⟩), .int .i64 0]) ∧ w.heap.size ≤ q ∧ (∀ k, v.ownBlock = some k → w.heap.size ≤ k) ∧ Lg w' q g b w.heap.size v d.log d.opened.1 := by
  rcases h with h | h
  · exact h.2
  · exact absurd he h.1
theorem awake_app : (appD ⟨10, 0, [], false⟩ (newD 10) [97]).e = 0 ∧ (appD ⟨10, 0, [], false⟩ (newD 10) [97]).s = ⟨10, 2, [[97]], false⟩ := by
  have h := (appD_calm (s := ⟨10, 0, [], false⟩) (bs := [97]) (new_calm 10) rfl (new_len 10).symm).2.2.2.2.1 ⟨by decide, by decide, by unfold fits; rw [laidI_len]; decide⟩
  refine ⟨h.1, h.2.trans ?_⟩
  rw [laidI_len]
  rfl

set_option maxRecDepth 100000 in
set_option maxHeartbeats 1000000 in
theorem awake08_any (w : World) (ht : Tabs w) : Calls Tryd.prog 17 #[] w fun e w' => e = .returned (.bool true) ∧ Below w.heap.size w w' := by
  have HN := Lib.hid (dnew_ok 10 w (by decide) (by decide))
  have HT := Lib.hid ht
  have kc := fun (w : World) (C : Array Value) (n c : Nat) => Lib.run_convert_bytes_const (P := Tryd.prog) w 26 5 C n c Tryd.underlying26 Tryd.underlying5
  clear ht
  go_enter Tryd.func17, Tryd.ntmps17
  go_wp2_with fail
  refine HN.out.mono ?_
  rintro e w1 ⟨g, b, rfl, hg, hb, hD, hb1⟩
  have HO := Lib.hid (open_any w1 g b _ (HT.out.below hb1) hD)
  have HB1 := Lib.hid hb1
  have HGB := Lib.hid (And.intro hg hb)
  clear hg hb hD hb1 HN
  go_wp2_with fail
  refine HO.out.mono ?_
  rintro e w2 ⟨hP, hO⟩
  obtain ⟨q, v, rfl, hq, hv, hL⟩ := hP.ok (by rw [new_opened])
  rw [new_opened, new_log] at hL
  have hL : Lg w2 q g b w1.heap.size v ⟨10, 0, [], false⟩ (newD 10) := hL
  have HB2 := Lib.hid (Only.belowOf HB1.out hO HB1.out.size (fun k hk => by
    simp at hk
    rcases hk with rfl | rfl
    · exact HGB.out.1
    · exact HGB.out.2))
  have HQV := Lib.hid (And.intro hq hv)
  have HL := Lib.hid hL
  clear hP hO hq hv hL HO
  go_wp2_with fail
  have hbA : Below w2.heap.size w2 (w2.alloc (.cells #[.int .u8 97] 5 (1, 2))) := (Below.refl _ _).alloc (Nat.le_refl _) _
  have hs0 : Sl (w2.alloc (.cells #[.int .u8 97] 5 (1, 2))) (.slice (some ⟨w2.heap.size, 0, none⟩) 1 1) (([97] : List Int).map (Value.int .u8)) := Sl.litf w2 #[.int .u8 97] 5 (1, 2) (by simp [maxLen])
  have HLT := Lib.hid HL.out.lts
  have HAPP := Lib.hid (append_any _ q g b w1.heap.size v _ (newD 10) _ [97] (HL.out.below hbA) (by intro x hx; simp at hx; omega) (HT.out.below (below_trans2 HB2.out hbA)) hs0 (fun w' ho => hs0.far ho (fun hm => by have := HLT.out _ hm; omega)))
  have HBA := Lib.hid (below_trans2 HB2.out hbA)
  have HBS := Lib.hid (show ∀ k ∈ q :: g :: b :: v.ownBlock.toList, w.heap.size ≤ k from by
    intro k hk
    simp only [List.mem_cons, Option.mem_toList] at hk
    rcases hk with rfl | rfl | rfl | hk
    · exact Nat.le_trans HB1.out.size HQV.out.1
    · exact HGB.out.1
    · exact HGB.out.2
    · exact Nat.le_trans HB1.out.size (HQV.out.2 _ hk))
  clear hbA hs0 HL kc
  refine HAPP.out.mono ?_
  rintro e w3 ⟨v3, rfl, hL3, _, hO3⟩
  rw [awake_app.1]
  rw [awake_app.2] at hL3
  have HL3 := Lib.hid hL3
  have HB3 := Lib.hid (Only.belowOf HBA.out hO3 HBA.out.size HBS.out)
  have HLE := Lib.hid (llen_any w3 q g b _ v3 _ _ hL3)
  have HRO := Lib.hid (lroom_any w3 q g b _ v3 _ _ hL3)
  rw [show roomI ⟨10, 2, [[97]], false⟩ = 436 from by decide] at HRO
  clear hL3 hO3 HAPP HBA
  go_wp2_with fail
  refine HLE.out.mono ?_
  rintro e w4 ⟨rfl, rfl⟩
  go_wp2_with fail
  refine HRO.out.mono ?_
  rintro e w5 ⟨rfl, hb5⟩
  have HB5 := Lib.hid (below_trans2 HB3.out hb5)
  clear hb5
  go_wp2
  go_ret
  exact ⟨rfl, HB5.out⟩

/-- Open, on no device. -/
theorem nopen_any (w : World) (a : Option Addr) (h : NoDev w a) (hI : Calls Tryd.prog 27 #[.pointer a] w fun e w' => e = .returned (.slice none 0 0) ∧ w = w') :
    Calls Tryd.prog 16 #[.pointer a] w fun e w' => e = .returned (.tuple #[.pointer none, .int .i64 2]) ∧ w = w' := by
  have HI := Lib.hid hI
  clear h hI
  go_enter Tryd.func16, Tryd.ntmps16
  go_wp2_with fail
  refine HI.out.mono ?_
  rintro e w1 ⟨rfl, rfl⟩
  go_wp2
  go_ret2
  exact ⟨rfl, rfl⟩

set_option maxRecDepth 100000 in
set_option maxHeartbeats 1000000 in
theorem seglogNobody_walk (v : Value) (bs : List Int) (w : World) (ht : Tabs w) (hB : IsB bs) (hs : Sl w v (bs.map (Value.int .u8))) (hl : bs.length ≤ reachBytes) :
    Calls Tryd.prog 4 #[v] w fun e w' => e = .returned (.bool true) ∧ Below w.heap.size w w' := by
  have HT := Lib.hid ht
  obtain ⟨va, vn, vc, rfl⟩ := hs.val
  clear ht hs
  go_enter Tryd.func4, Tryd.ntmps4
  go_wp2
  have kL := (Blk.new w 36 #[.pointer none, .int .i64 0, .int .i64 0, .slice none 0 0, .bool false]).alloc (.cells #[.pointer none, .pointer (some ⟨w.heap.size, 0, none⟩)] 33)
  have kA := Blk.new (w.alloc (.cells #[.pointer none, .int .i64 0, .int .i64 0, .slice none 0 0, .bool false] 36)) 33 #[.pointer none, .pointer (some ⟨w.heap.size, 0, none⟩)]
  have hbA : Below w.heap.size w ((w.alloc (.cells #[.pointer none, .int .i64 0, .int .i64 0, .slice none 0 0, .bool false] 36)).alloc (.cells #[.pointer none, .pointer (some ⟨w.heap.size, 0, none⟩)] 33)) := ((Below.refl _ w).alloc (Nat.le_refl _) _).alloc (by simp) _
  rw [show (w.alloc (.cells #[.pointer none, .int .i64 0, .int .i64 0, .slice none 0 0, .bool false] 36)).heap.size = w.heap.size + 1 from by simp] at kA
  have HK := Lib.hid (And.intro kL kA)
  have HBA := Lib.hid hbA
  clear kL kA hbA
  generalize ((w.alloc (.cells #[.pointer none, .int .i64 0, .int .i64 0, .slice none 0 0, .bool false] 36)).alloc (.cells #[.pointer none, .pointer (some ⟨w.heap.size, 0, none⟩)] 33)) = wA at *
  go_loopw [13] (fun iv wr => ∃ k : Nat, k ≤ 2 ∧ iv = .int .i64 k ∧ wA = wr) (fun iv _ => 2 - (intOf iv).toNat)
  case atStart => exact ⟨0, by omega, rfl, rfl⟩
  case round =>
    obtain ⟨k, hk, rfl, rfl⟩ := hrel
    by_cases hlt : k < 2
    · have hkI : (k : Int) < 2 := by omega
      obtain ⟨a, ca, hND⟩ : ∃ a, wA.cell? ⟨w.heap.size + 1, k, none⟩ = some (.pointer a) ∧ NoLog wA a := by
        match k, hlt with
        | 0, _ => exact ⟨none, HK.out.2.cell 0, .inl rfl⟩
        | 1, _ => exact ⟨some ⟨w.heap.size, 0, none⟩, HK.out.2.cell 1, .inr ⟨_, rfl, HK.out.1.cell 0⟩⟩
      have H1 := Lib.hid (nlappend_any wA a (.slice va vn vc) hND)
      have H2 := Lib.hid (nlrecords_any wA a hND)
      have H3 := Lib.hid (nlroom_any wA a hND)
      have H4 := Lib.hid (nllen_any wA a hND)
      have H5 := Lib.hid (nlstopped_any wA a hND)
      clear hND
      go_wp2_with (first
        | (refine H1.out.mono ?_; rintro e w4 ⟨rfl, rfl⟩)
        | (refine H2.out.mono ?_; rintro e w4 ⟨rfl, rfl⟩)
        | (refine H3.out.mono ?_; rintro e w4 ⟨rfl, rfl⟩)
        | (refine H4.out.mono ?_; rintro e w4 ⟨rfl, rfl⟩)
        | (refine H5.out.mono ?_; rintro e w4 ⟨rfl, rfl⟩))
      go_roundw
      case rel => exact ⟨k + 1, by omega, by go_num, trivial⟩
      case measure => simp [intOf]; omega
    · have hk2 : (k : Int) = 2 := by omega
      rw [hk2]
      clear hk2
      go_wp2
      have kD := (Blk.new wA 43 #[.slice none 0 0, .bool false, .bool false, .int .i64 0, .int .i64 0]).alloc (.cells #[.pointer none, .pointer (some ⟨wA.heap.size, 0, none⟩)] 34)
      have kB := Blk.new (wA.alloc (.cells #[.slice none 0 0, .bool false, .bool false, .int .i64 0, .int .i64 0] 43)) 34 #[.pointer none, .pointer (some ⟨wA.heap.size, 0, none⟩)]
      have hbB : Below wA.heap.size wA ((wA.alloc (.cells #[.slice none 0 0, .bool false, .bool false, .int .i64 0, .int .i64 0] 43)).alloc (.cells #[.pointer none, .pointer (some ⟨wA.heap.size, 0, none⟩)] 34)) := ((Below.refl _ wA).alloc (Nat.le_refl _) _).alloc (by simp) _
      rw [show (wA.alloc (.cells #[.slice none 0 0, .bool false, .bool false, .int .i64 0, .int .i64 0] 43)).heap.size = wA.heap.size + 1 from by simp] at kB
      have HK2 := Lib.hid (And.intro kD kB)
      have HBB := Lib.hid (below_trans2 HBA.out hbB)
      clear kD kB hbB HK HBA
      generalize ((wA.alloc (.cells #[.slice none 0 0, .bool false, .bool false, .int .i64 0, .int .i64 0] 43)).alloc (.cells #[.pointer none, .pointer (some ⟨wA.heap.size, 0, none⟩)] 34)) = wB at *
      go_loopw [43] (fun iv wr => ∃ k : Nat, k ≤ 2 ∧ iv = .int .i64 k ∧ wB = wr) (fun iv _ => 2 - (intOf iv).toNat)
      case atStart => exact ⟨0, by omega, rfl, rfl⟩
      case round =>
        obtain ⟨k, hk, rfl, rfl⟩ := hrel
        by_cases hlt : k < 2
        · have hkI : (k : Int) < 2 := by omega
          obtain ⟨a, ca, hND⟩ : ∃ a, wB.cell? ⟨wA.heap.size + 1, k, none⟩ = some (.pointer a) ∧ NoDev wB a := by
            match k, hlt with
            | 0, _ => exact ⟨none, HK2.out.2.cell 0, .inl rfl⟩
            | 1, _ => exact ⟨some ⟨wA.heap.size, 0, none⟩, HK2.out.2.cell 1, .inr ⟨_, rfl, HK2.out.1.cell 0⟩⟩
          have H1 := Lib.hid (nopen_any wB a hND (nimage_any wB a hND))
          clear hND
          go_wp2_with (refine H1.out.mono ?_; rintro e w4 ⟨rfl, rfl⟩)
          go_roundw
          case rel => exact ⟨k + 1, by omega, by go_num, trivial⟩
          case measure => simp [intOf]; omega
        · obtain rfl : k = 2 := by omega
          have HAW := Lib.hid (awake08_any wB (HT.out.below HBB.out))
          go_wp2_with fail
          refine HAW.out.mono ?_
          rintro e w4 ⟨rfl, hb4⟩
          have hb := below_trans2 HBB.out hb4
          go_wp2
          go_ret
          exact ⟨rfl, hb⟩

end Go.Proofs.YtgfkejecigefbaaDoor

namespace Go.Proofs.YtgfkejecigefbaaDoor
open Go.RowKit
set_option linter.unusedVariables false

/-- One sector's text is as it was synced. -/
theorem RDev.drop1 {w : World} {y gl gk gw : Nat} {d : DSt} (h : RDev w y gl gk gw d) {j : Nat} {s : Sec} (hj : d.l[j]? = some s) {u : Value} (hu : OB w 0 u s.kept) (hw : s.waits = true) :
    RDev (w.setCell ⟨gl, j, none⟩ u) y gl gk gw (d.withL (d.l.set j { now := s.kept, kept := s.kept, waits := true })) := by
  have hjl : j < d.l.length := (List.getElem?_eq_some_iff.1 hj).1
  obtain ⟨cl, ck, cw, h1, h2, h3, k⟩ := h.blk
  obtain ⟨c1, k1⟩ := h.rl.typ
  obtain ⟨c2, k2⟩ := h.rk.typ
  obtain ⟨c3, k3⟩ := h.rw.typ
  obtain ⟨n1, _, _, n4, _, hne⟩ := h.nes
  have hr1 := h.rl.set j hu (by rw [List.length_map]; exact hjl)
  have hk1 := h.rk.only (Only.setCell [gl] w (p := ⟨gl, j, none⟩) (by simp) u) (fun q hq c e => by
    obtain rfl : q = gl := by simpa using hq
    exact Blk.ne_ e k1 (by decide) rfl) (by simp; exact fun e => hne e.symm)
  have hw1 := h.rw.only (Only.setCell [gl] w (p := ⟨gl, j, none⟩) (by simp) u) (by simp; exact fun e => n4 e.symm)
  have so := h.ok s (List.mem_of_getElem? hj)
  refine ⟨⟨cl, ck, cw, by show (List.set _ _ _).length ≤ _ ∧ _; rw [List.length_set]; exact h1, by show (List.set _ _ _).length ≤ _ ∧ _; rw [List.length_set]; exact h2, by show (List.set _ _ _).length ≤ _ ∧ _; rw [List.length_set]; exact h3, ?_⟩, ?_, ?_, ?_, hne, by rw [show (d.withL (d.l.set j { now := s.kept, kept := s.kept, waits := true })).l.length = d.l.length from List.length_set ..]; exact h.pos, h.burns, set_ok h.ok ⟨so.2.1, so.2.1, so.2.2.2.1, so.2.2.2.1, fun _ => rfl⟩⟩
  · show Blk _ y _ (rdCells gl gk gw (List.set _ _ _).length cl ck cw _)
    rw [List.length_set]
    exact k.far (p := ⟨gl, j, none⟩) n1 u
  · show TRow _ gl ((d.l.set j _).map Sec.now)
    rw [List.map_set]; exact hr1
  · show TRow _ gk ((d.l.set j _).map Sec.kept)
    rw [List.map_set]
    have e : (d.l.map Sec.kept).set j s.kept = d.l.map Sec.kept := by
      apply List.ext_getElem?; intro m
      by_cases q : j = m
      · subst q; rw [List.getElem?_set_self (by rw [List.length_map]; exact hjl), List.getElem?_map, hj]; rfl
      · rw [List.getElem?_set_ne q]
    show TRow _ gk ((d.l.map Sec.kept).set j s.kept)
    rw [e]; exact hk1
  · show BRow _ gw ((d.l.set j _).map Sec.waits)
    rw [List.map_set]
    have e : (d.l.map Sec.waits).set j true = d.l.map Sec.waits := by
      apply List.ext_getElem?; intro m
      by_cases q : j = m
      · subst q; rw [List.getElem?_set_self (by rw [List.length_map]; exact hjl), List.getElem?_map, hj]; exact congrArg some hw.symm
      · rw [List.getElem?_set_ne q]
    show BRow _ gw ((d.l.map Sec.waits).set j true)
    rw [e]; exact hw1
theorem RDev.drew {w : World} {y gl gk gw : Nat} {d : DSt} (h : RDev w y gl gk gw d) : RDev w.drew y gl gk gw d := h.only (bs := []) ⟨rfl, rfl, rfl, Nat.le_refl _, fun _ _ _ => rfl⟩ (by intro q hq; cases hq)
theorem Sl.onlyNe {w w' : World} {v : Value} {xs : List Value} {bs : List Nat} (h : Sl w v xs) (ho : Only bs w w') (hne : ∀ b ∈ bs, ∀ o n c, 0 < n → v ≠ .slice (some ⟨b, o, none⟩) n c) : Sl w' v xs := by
  obtain ⟨a, cap, rfl, h1, h2, h3⟩ := h
  refine ⟨a, cap, rfl, h1, h2, fun hn => ?_⟩
  obtain ⟨b, off, e, hlt, hc⟩ := h3 hn
  refine ⟨b, off, e, Nat.lt_of_lt_of_le hlt ho.size, fun j u hj => ?_⟩
  have hb : b ∉ bs := fun hm => hne b hm off xs.length cap hn (by rw [e])
  exact (ho.cell (p := ⟨b, off + j, none⟩) hlt hb).trans (hc j u hj)
theorem wlN_succ_t {l : List Bool} {k : Nat} (h : l.getD k false = true) : (wlN l (k + 1)).length = (wlN l k).length + 1 := by rw [wlN, h]; simp
theorem wlN_succ_f {l : List Bool} {k : Nat} (h : l.getD k false = false) : (wlN l (k + 1)).length = (wlN l k).length := by rw [wlN, h]; simp

end Go.Proofs.YtgfkejecigefbaaDoor
