
/- A device of sectors in memory: the words, and what becomes of them. Conditions: none. -/
import Derived.Test.YtgfkejecigefbaaDoorOwnT
import Derived.Deep.MidRow
namespace Go.Proofs.YtgfkejecigefbaaDoor
open Go.RowKit
set_option linter.unusedVariables false

/-- Nothing that was there has turned but these blocks. -/
structure Only (bs : List Nat) (w w' : World) : Prop where
  os : w'.os = w.os
  tape : w'.tape = w.tape
  output : w'.output = w.output
  size : w.heap.size ≤ w'.heap.size
  block : ∀ k, k < w.heap.size → k ∉ bs → w'.heap[k]? = w.heap[k]?
theorem Only.refl (bs : List Nat) (w : World) : Only bs w w := ⟨rfl, rfl, rfl, Nat.le_refl _, fun _ _ _ => rfl⟩
theorem Only.trans {bs : List Nat} {a b c : World} (h : Only bs a b) (k : Only bs b c) : Only bs a c :=
  ⟨k.os.trans h.os, k.tape.trans h.tape, k.output.trans h.output, Nat.le_trans h.size k.size, fun i hi hn => (k.block i (Nat.lt_of_lt_of_le hi h.size) hn).trans (h.block i hi hn)⟩
theorem Only.mono {bs cs : List Nat} {w w' : World} (h : Only bs w w') (hs : ∀ k, k ∈ bs → k ∈ cs) : Only cs w w' :=
  ⟨h.os, h.tape, h.output, h.size, fun k hk hn => h.block k hk fun hb => hn (hs k hb)⟩
theorem Only.of_below {w w' : World} (bs : List Nat) (h : Below w.heap.size w w') : Only bs w w' := ⟨h.os, h.tape, h.output, h.size, fun k hk _ => h.block k hk⟩
theorem Only.of_grown {w w' : World} {g : Nat} (h : w.grownBy w' (some g)) : Only [g] w w' :=
  ⟨h.os, h.tape, h.output, h.size, fun k hk hn => h.block k hk fun e => hn (by cases e; simp)⟩
theorem Only.drew {bs : List Nat} {a w : World} (h : Only bs a w) : Only bs a w.drew := ⟨h.os, h.tape, h.output, h.size, h.block⟩
theorem Only.setCell (bs : List Nat) (w : World) {p : Addr} (hp : p.block ∈ bs) (u : Value) : Only bs w (w.setCell p u) :=
  ⟨rfl, rfl, rfl, by simp [World.setCell], fun k _ hn => Below.heap_setCell w p u k (fun e => hn (by rw [e]; exact hp))⟩
theorem setCells_heap (b : Nat) : ∀ (vs : List Value) (o : Nat) (w : World) (k : Nat), k ≠ b → (w.setCells b o vs).heap[k]? = w.heap[k]?
  | [], _, _, _, _ => rfl
  | v :: r, o, w, k, h => by rw [World.setCells, setCells_heap b r (o + 1) _ k h]; exact Below.heap_setCell w _ v k h
theorem setCells_same (b : Nat) : ∀ (vs : List Value) (o : Nat) (w : World), (w.setCells b o vs).os = w.os ∧ (w.setCells b o vs).tape = w.tape ∧ (w.setCells b o vs).output = w.output ∧ (w.setCells b o vs).heap.size = w.heap.size
  | [], _, _ => ⟨rfl, rfl, rfl, rfl⟩
  | v :: r, o, w => by
    rw [World.setCells]
    obtain ⟨h1, h2, h3, h4⟩ := setCells_same b r (o + 1) (w.setCell ⟨b, o, none⟩ v)
    exact ⟨h1, h2, h3, h4.trans (by simp [World.setCell])⟩
theorem Only.setCells (bs : List Nat) (w : World) {b : Nat} (hb : b ∈ bs) (o : Nat) (vs : List Value) : Only bs w (w.setCells b o vs) :=
  have h := setCells_same b vs o w
  ⟨h.1, h.2.1, h.2.2.1, by rw [h.2.2.2]; exact Nat.le_refl _, fun k _ hn => setCells_heap b vs o w k (fun e => hn (by rw [e]; exact hb))⟩
/-- Where all these blocks are new. -/
theorem Only.belowOf {bs : List Nat} {B : Nat} {W w w' : World} (hb : Below B W w) (h : Only bs w w') (hB : B ≤ w.heap.size) (hs : ∀ k, k ∈ bs → B ≤ k) : Below B W w' :=
  hb.trans ⟨h.os, h.tape, h.output, h.size, fun k hk => h.block k (Nat.lt_of_lt_of_le hk hB) fun hn => by have := hs k hn; omega⟩
theorem Only.toBelow {bs : List Nat} {B : Nat} {w w' : World} (h : Only bs w w') (hB : B ≤ w.heap.size) (hs : ∀ k, k ∈ bs → B ≤ k) : Below B w w' :=
  Only.belowOf (Below.refl _ _) h hB hs
theorem Only.cell {bs : List Nat} {w w' : World} (h : Only bs w w') {p : Addr} (hp : p.block < w.heap.size) (hn : p.block ∉ bs) : w'.cell? p = w.cell? p := World.cell?_of_block (w := w) (h.block p.block hp hn)
theorem Only.frozen {bs : List Nat} {w w' : World} (h : Only bs w w') {p : Addr} (hp : p.block < w.heap.size) (hn : p.block ∉ bs) : w'.frozen? p = w.frozen? p := World.frozen?_of_block (w := w) (h.block p.block hp hn)
theorem Only.blk {bs : List Nat} {w w' : World} (h : Only bs w w') {g : Nat} {t : TypeId} {cs : Array Value} (k : Blk w g t cs) (hn : g ∉ bs) : Blk w' g t cs := (h.block g k.lt hn).trans k
/-- A row of the call's own, whose block has not turned. -/
theorem Only.owns {bs : List Nat} {w w' : World} (h : Only bs w w') {base : Nat} {e : TypeId} {size : Nat} {v : Value} {n : Nat} {xs : List Value} (r : w.ownsRow base e size v n xs) (hn : ∀ g, v.ownBlock = some g → g ∉ bs) : w'.ownsRow base e size v n xs := by
  obtain ⟨h1, h2⟩ := r
  refine ⟨h1, ?_⟩
  rcases h2 with h2 | ⟨g, cap, cur, hv, hg, hh, r⟩
  · exact Or.inl h2
  · have hlt : g < w.heap.size := by
      rcases Nat.lt_or_ge g w.heap.size with hlt | hge
      · exact hlt
      · rw [Array.getElem?_eq_none hge] at hh; cases hh
    exact Or.inr ⟨g, cap, cur, hv, hg, (h.block g hlt (hn g (by rw [hv]; rfl))).trans hh, r⟩
/-- The type of a row's block. -/
theorem owns_blk {w : World} {base : Nat} {e : TypeId} {size : Nat} {v : Value} {n : Nat} {xs : List Value} (r : w.ownsRow base e size v n xs) {g : Nat} (hg : v.ownBlock = some g) : ∃ cur, Blk w g e cur := by
  rcases r.2 with ⟨rfl, _⟩ | ⟨g', cap, cur, rfl, _, hh, _⟩
  · simp [Value.ownBlock] at hg
  · obtain rfl : g' = g := by simpa [Value.ownBlock] using hg
    exact ⟨cur, hh⟩

/-- A sector: as it was written last, as it was synced last, and whether these may part. -/
structure Sec where
  now : List Int
  kept : List Int
  waits : Bool
def Sec.ok (s : Sec) : Prop := s.now.length = 64 ∧ s.kept.length = 64 ∧ IsB s.now ∧ IsB s.kept ∧ (s.waits = false → s.now = s.kept)
structure SecAt (w : World) (b i : Nat) (s : Sec) : Prop where
  now : w.rangeAt b (i * 129) (s.now.map (Value.int .u8))
  kept : w.rangeAt b (i * 129 + 64) (s.kept.map (Value.int .u8))
  waits : w.cell? ⟨b, i * 129 + 128, none⟩ = some (.bool s.waits)
/-- The block is a row of these sectors (and perhaps more behind). -/
structure SRow (w : World) (b : Nat) (l : List Sec) : Prop where
  typ : ∃ cur, Blk w b 87 cur
  at_ : ∀ (i : Nat) (s : Sec), l[i]? = some s → SecAt w b i s
  len : ∀ s ∈ l, s.now.length = 64 ∧ s.kept.length = 64

theorem SRow.keep {w w' : World} {b : Nat} {l : List Sec} (h : SRow w b l) (hb : w'.heap[b]? = w.heap[b]?) : SRow w' b l := by
  have hc : ∀ o, w'.cell? ⟨b, o, none⟩ = w.cell? ⟨b, o, none⟩ := fun o => World.cell?_of_block (w := w) (a := ⟨b, o, none⟩) hb
  obtain ⟨⟨cur, k⟩, h2, h3⟩ := h
  refine ⟨⟨cur, hb.trans k⟩, fun i s hi => ?_, h3⟩
  obtain ⟨a1, a2, a3⟩ := h2 i s hi
  exact ⟨fun j v hv => (hc _).trans (a1 j v hv), fun j v hv => (hc _).trans (a2 j v hv), (hc _).trans a3⟩
theorem SRow.lt {w : World} {b : Nat} {l : List Sec} (h : SRow w b l) : b < w.heap.size := by obtain ⟨⟨cur, k⟩, _⟩ := h; exact k.lt
theorem SRow.only {w w' : World} {b : Nat} {l : List Sec} {bs : List Nat} (h : SRow w b l) (ho : Only bs w w') (hb : b ∉ bs) : SRow w' b l := h.keep (ho.block b h.lt hb)
theorem setCells_blk (b : Nat) (t : TypeId) : ∀ (vs : List Value) (o : Nat) (w : World) (cur : Array Value), Blk w b t cur → ∃ cur', Blk (w.setCells b o vs) b t cur'
  | [], _, _, cur, k => ⟨cur, k⟩
  | v :: r, o, w, cur, k => by rw [World.setCells]; exact setCells_blk b t r (o + 1) _ _ (k.set_ o v)
theorem SRow.there {w : World} {b : Nat} {l : List Sec} (h : SRow w b l) {o : Nat} {cs : List Value} (hr : w.rangeAt b o cs) : w.there b o cs.length := fun j hj => by
  obtain ⟨cur, k⟩ := h.typ
  exact ⟨hr.isSome j hj, k.frozen _⟩

/-- A sector's bytes are stored. -/
theorem SRow.setNow {w : World} {b : Nat} {l : List Sec} (h : SRow w b l) {i : Nat} {s : Sec} (hi : l[i]? = some s) {bs : List Int} (hl : bs.length = 64) :
    SRow (w.setCells b (i * 129) (bs.map (Value.int .u8))) b (l.set i { s with now := bs }) := by
  have hs := h.at_ i s hi
  have hsl := h.len s (List.mem_of_getElem? hi)
  have hil : i < l.length := (List.getElem?_eq_some_iff.1 hi).1
  obtain ⟨cur, k⟩ := h.typ
  have ht : w.there b (i * 129) (bs.map (Value.int .u8)).length := by
    have := h.there hs.now
    rw [List.length_map] at this ⊢
    rw [hl, ← hsl.1]; exact this
  refine ⟨setCells_blk b _ _ _ _ _ k, fun j t hj => ?_, fun t ht' => ?_⟩
  · by_cases e : i = j
    · subst e
      rw [List.getElem?_set_self hil] at hj
      cases hj
      refine ⟨World.rangeAt_setCells_same w b _ _ ht, World.rangeAt_setCells_apart hs.kept _ _ _ (.inr (.inr (by rw [List.length_map]; omega))), ?_⟩
      rw [World.cell?_setCells_out b _ _ w ⟨b, i * 129 + 128, none⟩ (fun _ _ => .inr (by rw [List.length_map]; show i * 129 + bs.length ≤ i * 129 + 128; omega))]
      exact hs.waits
    · rw [List.getElem?_set_ne e] at hj
      obtain ⟨a1, a2, a3⟩ := h.at_ j t hj
      have htl := h.len t (List.mem_of_getElem? hj)
      refine ⟨World.rangeAt_setCells_apart a1 _ _ _ (.inr ?_), World.rangeAt_setCells_apart a2 _ _ _ (.inr ?_), ?_⟩
      · rw [List.length_map, List.length_map]; rcases Nat.lt_or_gt_of_ne e with q | q <;> omega
      · rw [List.length_map, List.length_map]; rcases Nat.lt_or_gt_of_ne e with q | q <;> omega
      · rw [World.cell?_setCells_out b _ _ w ⟨b, j * 129 + 128, none⟩ (fun _ _ => by rw [List.length_map]; show j * 129 + 128 < i * 129 ∨ i * 129 + bs.length ≤ j * 129 + 128; rcases Nat.lt_or_gt_of_ne e with q | q <;> omega)]
        exact a3
  · rcases List.mem_or_eq_of_mem_set ht' with h1 | rfl
    · exact h.len t h1
    · exact ⟨hl, hsl.2⟩
theorem SRow.setKept {w : World} {b : Nat} {l : List Sec} (h : SRow w b l) {i : Nat} {s : Sec} (hi : l[i]? = some s) {bs : List Int} (hl : bs.length = 64) :
    SRow (w.setCells b (i * 129 + 64) (bs.map (Value.int .u8))) b (l.set i { s with kept := bs }) := by
  have hs := h.at_ i s hi
  have hsl := h.len s (List.mem_of_getElem? hi)
  have hil : i < l.length := (List.getElem?_eq_some_iff.1 hi).1
  obtain ⟨cur, k⟩ := h.typ
  have ht : w.there b (i * 129 + 64) (bs.map (Value.int .u8)).length := by
    have := h.there hs.kept
    rw [List.length_map, hsl.2] at this
    rw [List.length_map, hl]; exact this
  refine ⟨setCells_blk b _ _ _ _ _ k, fun j t hj => ?_, fun t ht' => ?_⟩
  · by_cases e : i = j
    · subst e
      rw [List.getElem?_set_self hil] at hj
      cases hj
      refine ⟨World.rangeAt_setCells_apart hs.now _ _ _ (.inr (.inl (by rw [List.length_map]; omega))), World.rangeAt_setCells_same w b _ _ ht, ?_⟩
      rw [World.cell?_setCells_out b _ _ w ⟨b, i * 129 + 128, none⟩ (fun _ _ => .inr (by rw [List.length_map]; show i * 129 + 64 + bs.length ≤ i * 129 + 128; omega))]
      exact hs.waits
    · rw [List.getElem?_set_ne e] at hj
      obtain ⟨a1, a2, a3⟩ := h.at_ j t hj
      have htl := h.len t (List.mem_of_getElem? hj)
      refine ⟨World.rangeAt_setCells_apart a1 _ _ _ (.inr ?_), World.rangeAt_setCells_apart a2 _ _ _ (.inr ?_), ?_⟩
      · rw [List.length_map, List.length_map]; rcases Nat.lt_or_gt_of_ne e with q | q <;> omega
      · rw [List.length_map, List.length_map]; rcases Nat.lt_or_gt_of_ne e with q | q <;> omega
      · rw [World.cell?_setCells_out b _ _ w ⟨b, j * 129 + 128, none⟩ (fun _ _ => by rw [List.length_map]; show j * 129 + 128 < i * 129 + 64 ∨ i * 129 + 64 + bs.length ≤ j * 129 + 128; rcases Nat.lt_or_gt_of_ne e with q | q <;> omega)]
        exact a3
  · rcases List.mem_or_eq_of_mem_set ht' with h1 | rfl
    · exact h.len t h1
    · exact ⟨hsl.1, hl⟩
theorem SRow.setWaits {w : World} {b : Nat} {l : List Sec} (h : SRow w b l) {i : Nat} {s : Sec} (hi : l[i]? = some s) (x : Bool) :
    SRow (w.setCell ⟨b, i * 129 + 128, none⟩ (.bool x)) b (l.set i { s with waits := x }) := by
  have hs := h.at_ i s hi
  have hil : i < l.length := (List.getElem?_eq_some_iff.1 hi).1
  obtain ⟨cur, k⟩ := h.typ
  have far : ∀ o, o ≠ i * 129 + 128 → (w.setCell ⟨b, i * 129 + 128, none⟩ (.bool x)).cell? ⟨b, o, none⟩ = w.cell? ⟨b, o, none⟩ := fun o ho =>
    World.cell?_setCell_other _ _ _ _ (by intro e; cases e; exact ho rfl)
  have rng : ∀ (o : Nat) (cs : List Value), (o + cs.length ≤ i * 129 + 128 ∨ i * 129 + 128 < o) → w.rangeAt b o cs → (w.setCell ⟨b, i * 129 + 128, none⟩ (.bool x)).rangeAt b o cs := fun o cs ho hr j v hv => by
    have hj : j < cs.length := (List.getElem?_eq_some_iff.1 hv).1
    rw [far _ (by omega)]; exact hr j v hv
  refine ⟨⟨_, k.set_ _ _⟩, fun j t hj => ?_, fun t ht' => ?_⟩
  · by_cases e : i = j
    · subst e
      rw [List.getElem?_set_self hil] at hj
      cases hj
      have hsl := h.len s (List.mem_of_getElem? hi)
      exact ⟨rng _ _ (.inl (by rw [List.length_map]; show i * 129 + s.now.length ≤ _; omega)) hs.now, rng _ _ (.inl (by rw [List.length_map]; show i * 129 + 64 + s.kept.length ≤ _; omega)) hs.kept, World.cell?_setCell_same _ _ _ hs.waits⟩
    · rw [List.getElem?_set_ne e] at hj
      obtain ⟨a1, a2, a3⟩ := h.at_ j t hj
      have htl := h.len t (List.mem_of_getElem? hj)
      refine ⟨rng _ _ ?_ a1, rng _ _ ?_ a2, (far _ (by omega)).trans a3⟩
      · rw [List.length_map]; rcases Nat.lt_or_gt_of_ne e with q | q <;> omega
      · rw [List.length_map]; rcases Nat.lt_or_gt_of_ne e with q | q <;> omega
  · rcases List.mem_or_eq_of_mem_set ht' with h1 | rfl
    · exact h.len t h1
    · exact h.len s (List.mem_of_getElem? hi)

/-- What a device is. -/
structure DSt where
  l : List Sec
  dead : Bool
  fused : Bool
  burns : Int
  changes : Int
/-- The program's device at g, its sectors at b. -/
structure Dev (w : World) (g b : Nat) (d : DSt) : Prop where
  blk : ∃ cap, d.l.length ≤ cap ∧ cap ≤ 9223372036854775807 ∧ Blk w g 43 #[.slice (some ⟨b, 0, none⟩) d.l.length cap, .bool d.dead, .bool d.fused, .int .i64 d.burns, .int .i64 d.changes]
  row : SRow w b d.l
  pos : 1 ≤ d.l.length ∧ d.l.length ≤ 16384
  ok : ∀ s ∈ d.l, s.ok
theorem Dev.ne {w : World} {g b : Nat} {d : DSt} (h : Dev w g b d) : g ≠ b := by
  obtain ⟨cap, _, _, k⟩ := h.blk
  obtain ⟨cur, k'⟩ := h.row.typ
  exact Blk.ne_ k k' (by decide)
theorem Dev.only {w w' : World} {g b : Nat} {d : DSt} {bs : List Nat} (h : Dev w g b d) (ho : Only bs w w') (hg : g ∉ bs) (hb : b ∉ bs) : Dev w' g b d := by
  obtain ⟨⟨cap, h1, h2, k⟩, r, p, o⟩ := h
  exact ⟨⟨cap, h1, h2, ho.blk k hg⟩, r.only ho hb, p, o⟩
theorem Dev.below {w w' : World} {g b : Nat} {d : DSt} (h : Dev w g b d) (hb : Below w.heap.size w w') : Dev w' g b d := h.only (Only.of_below [] hb) (by simp) (by simp)

end Go.Proofs.YtgfkejecigefbaaDoor
