/- What the references of layer 7 ask of a channel is what the program asks: plain. -/
import Derived.Test.YtdiamknibfamdaaGreatRfC
import Derived.Test.YtdiamknibfamdaaGreatBase
import Derived.BigQuiet
import Derived.Test.YtdiamknibfamdaaGreatMayP
namespace Go.Proofs.YtdiamknibfamdaaGreat
open Go.RowKit Go.Shelf

theorem idsOk_iff (ls : List Ledger) : ∀ (ids : List Int), idsOkB ls ids = true ↔ ∀ (i : Nat) (id : Int), ids[i]? = some id → ∃ l, findL ls id = some l ∧ (i + 1 < ids.length → l.closed ≠ 0)
  | [] => by simp [idsOkB]
  | id :: t => by
    have ih := idsOk_iff ls t
    unfold idsOkB
    rw [Bool.and_eq_true, ih]
    constructor
    · rintro ⟨h1, h2⟩ i x hx
      cases i with
      | zero =>
        cases hx
        cases hf : findL ls id with
        | none => rw [hf] at h1; cases h1
        | some l =>
          rw [hf] at h1
          refine ⟨l, rfl, fun hlt h0 => ?_⟩
          simp [h0] at h1
          simp [h1] at hlt
      | succ j =>
        obtain ⟨l, hl, h3⟩ := h2 j x (by simpa using hx)
        exact ⟨l, hl, fun h4 => h3 (by simp at h4; omega)⟩
    · intro h
      refine ⟨?_, fun i x hx => ?_⟩
      · obtain ⟨l, hl, h3⟩ := h 0 id rfl
        rw [hl]
        cases t with
        | nil => simp
        | cons a u => simp; exact h3 (by simp)
      · obtain ⟨l, hl, h3⟩ := h (i + 1) x (by simpa using hx)
        exact ⟨l, hl, fun h4 => h3 (by simp; omega)⟩

theorem idx_found (ls : List Ledger) (id : Int) : 0 ≤ idxL ls id ↔ ∃ l, findL ls id = some l := by
  rcases idxL_cases ls id with ⟨h1, h2⟩ | ⟨k, l, _, h2, h3⟩
  · rw [h1, h2]; simp
  · rw [h2, h3]; simp

theorem ids_iff (ls : List Ledger) (ids : List Int) : (∀ i, i < ids.length → IdGood ls ids i) ↔ riseB ids = true ∧ idsOkB ls ids = true := by
  rw [rise_get, idsOk_iff]
  constructor
  · intro h
    refine ⟨fun j a b ha hb => ?_, fun i id hid => ?_⟩
    · exact (h (j + 1) (List.getElem?_eq_some_iff.1 hb).1 b hb).2.1 j a rfl ha
    · obtain ⟨h1, _, h3⟩ := h i (List.getElem?_eq_some_iff.1 hid).1 id hid
      obtain ⟨l, hl⟩ := (idx_found ls id).1 h1
      exact ⟨l, hl, fun hlt => h3 hlt l hl⟩
  · rintro ⟨h1, h2⟩ i _ id hid
    obtain ⟨l, hl, h3⟩ := h2 i id hid
    refine ⟨(idx_found ls id).2 ⟨l, hl⟩, fun j y hj hy => ?_, fun hlt l' hl' => ?_⟩
    · subst hj
      exact h1 j y id hy hid
    · rw [hl] at hl'
      cases hl'
      exact h3 hlt

theorem owned_iff {c : Channel} (h0 : 0 ≤ c.epoch) : ownedB c = true ↔ (c.epoch = 0 → c.owner = 0 ∧ c.inc = 0 ∧ c.ledgers.length = 0) ∧ (0 < c.epoch → 1 ≤ c.owner ∧ c.owner ≤ 15 ∧ 1 ≤ c.inc ∧ c.inc ≤ 4611686018427387903) := by
  unfold ownedB fromB
  split
  · rename_i h
    simp only [Bool.and_eq_true, decide_eq_true_eq]
    constructor
    · intro h1; exact ⟨fun _ => ⟨h1.1.1, h1.1.2, h1.2⟩, fun h2 => by omega⟩
    · intro h1; obtain ⟨a, b, d⟩ := h1.1 h; exact ⟨⟨a, b⟩, d⟩
  · rename_i h
    simp only [Bool.and_eq_true, decide_eq_true_eq]
    constructor
    · intro h1; exact ⟨fun h2 => absurd h2 h, fun _ => ⟨h1.1.1, h1.1.2, h1.2.1, h1.2.2⟩⟩
    · intro h1; obtain ⟨a, b, d, e⟩ := h1.2 (by omega); exact ⟨⟨a, b⟩, d, e⟩

theorem cursors_iff (cs : List Cursor) : (∀ i, i < cs.length → CursorGood cs i) ↔ riseB (cs.map (·.sub)) = true ∧ cs.all cursorB = true := by
  rw [rise_get, List.all_eq_true]
  constructor
  · intro h
    refine ⟨fun j a b ha hb => ?_, fun x hx => ?_⟩
    · rw [List.getElem?_map] at ha hb
      obtain ⟨y, hy, rfl⟩ := Option.map_eq_some_iff.1 ha
      obtain ⟨x, hx, rfl⟩ := Option.map_eq_some_iff.1 hb
      exact (h (j + 1) (List.getElem?_eq_some_iff.1 hx).1 x hx).2.2.2 j y rfl hy
    · obtain ⟨i, hi⟩ := List.getElem?_of_mem hx
      obtain ⟨h1, h2, h3, _⟩ := h i (List.getElem?_eq_some_iff.1 hi).1 x hi
      simp [cursorB, fromB, countsB, h1, h2, h3]
  · rintro ⟨h1, h2⟩ i _ x hx
    have h3 := h2 x (List.mem_of_getElem? hx)
    simp only [cursorB, fromB, countsB, List.all_cons, List.all_nil, Bool.and_eq_true, decide_eq_true_eq, Bool.and_true] at h3
    refine ⟨h3.1.1, h3.1.2, h3.2, fun j y hj hy => ?_⟩
    subst hj
    exact h1 j y.sub x.sub (by rw [List.getElem?_map, hy]; rfl) (by rw [List.getElem?_map, hx]; rfl)

theorem marks_iff {c : Channel} (hf : c.first ≤ 4611686018427387903) : (MarksGood c.seen ∧ ∀ (i : Nat) (x : Mark), c.seen[i]? = some x → x.offset < c.first) ↔ seenB c = true := by
  unfold seenB distinctB
  simp only [Bool.and_eq_true, decide_eq_true_eq, List.all_eq_true]
  constructor
  · rintro ⟨⟨h1, h2⟩, h3⟩
    refine ⟨⟨⟨h1, ?_⟩, ?_⟩, fun x hx => ?_⟩
    · rw [rise_get]
      intro j a b ha hb
      rw [List.getElem?_map] at ha hb
      obtain ⟨y, hy, rfl⟩ := Option.map_eq_some_iff.1 ha
      obtain ⟨x, hx, rfl⟩ := Option.map_eq_some_iff.1 hb
      exact ((h2 (j + 1) (List.getElem?_eq_some_iff.1 hx).1 x hx).2.2.2.2.2 j y (by omega) hy).1
    · rw [List.Nodup, List.pairwise_map, List.pairwise_iff_getElem]
      intro i j hi hj hij
      exact ((h2 j hj _ (List.getElem?_eq_getElem hj)).2.2.2.2.2 i _ hij (List.getElem?_eq_getElem hi)).2
    · obtain ⟨i, hi⟩ := List.getElem?_of_mem hx
      obtain ⟨g1, g2, g3, g4, _⟩ := h2 i (List.getElem?_eq_some_iff.1 hi).1 x hi
      simp [markB, fromB, g1, g2, g3, g4, h3 i x hi]
  · rintro ⟨⟨⟨h1, h2⟩, h3⟩, h4⟩
    have hm : ∀ x ∈ c.seen, (1 ≤ x.producer ∧ x.producer ≤ 15) ∧ (1 ≤ x.seq ∧ x.seq ≤ 4611686018427387903) ∧ x.offset < c.first := fun x hx => by
      have := h4 x hx
      simpa [markB, fromB, and_assoc] using this
    refine ⟨⟨h1, fun i hi x hx => ?_⟩, fun i x hx => (hm x (List.mem_of_getElem? hx)).2.2⟩
    obtain ⟨⟨g1, g2⟩, ⟨g3, g4⟩, g5⟩ := hm x (List.mem_of_getElem? hx)
    refine ⟨g1, g2, g3, g4, by omega, fun k y hk hy => ?_⟩
    have hk' := (List.getElem?_eq_some_iff.1 hy).1
    have ex : c.seen[i] = x := by rw [List.getElem?_eq_getElem hi] at hx; exact Option.some.inj hx
    have ey : c.seen[k] = y := by rw [List.getElem?_eq_getElem hk'] at hy; exact Option.some.inj hy
    have p1 := rise_lt _ h2
    rw [List.pairwise_map, List.pairwise_iff_getElem] at p1
    have p2 := h3
    rw [List.Nodup, List.pairwise_map, List.pairwise_iff_getElem] at p2
    have q1 := p1 k i hk' hi hk
    have q2 := p2 k i hk' hi hk
    rw [ex, ey] at q1 q2
    exact ⟨q1, q2⟩

theorem refChan_iff (ls : List Ledger) (c : Channel) (h0 : 0 ≤ c.epoch) : RefChan ls c ↔ channelB ls c = true := by
  unfold channelB
  simp only [Bool.and_eq_true, owned_iff h0]
  constructor
  · rintro ⟨⟨a1, a2, a3, a4, a5⟩, b, d, e, ⟨f1, f2, f3⟩, g, i, j⟩
    obtain ⟨e1, e2⟩ := (ids_iff ls c.ledgers).1 e
    obtain ⟨j1, j2⟩ := (cursors_iff c.cursors).1 j
    exact ⟨⟨⟨⟨⟨⟨⟨⟨⟨⟨by simp [countsB, a1, a2, a3], b, d⟩, by simpa using a4⟩, e1⟩, by simp [fromB, f1]; simpa using f2⟩, by simp [countsB, f3]⟩, e2⟩, (marks_iff a3).1 ⟨g, i⟩⟩, by simpa using a5⟩, j1⟩, j2⟩
  · rintro ⟨⟨⟨⟨⟨⟨⟨⟨⟨⟨a, b, d⟩, a4⟩, e1⟩, f⟩, f3⟩, e2⟩, g⟩, a5⟩, j1⟩, j2⟩
    have a' : c.epoch ≤ 4611686018427387903 ∧ c.renewed ≤ 4611686018427387903 ∧ c.first ≤ 4611686018427387903 := by simpa [countsB] using a
    obtain ⟨a1, a2, a3⟩ := a'
    obtain ⟨g1, g2⟩ := (marks_iff a3).2 g
    have f' : c.first ≤ c.trim ∧ c.trim ≤ (if (openOf ls c).isSome then addU (endOf ls c) 8 else endOf ls c) := by simpa only [fromB, Bool.and_eq_true, decide_eq_true_eq] using f
    exact ⟨⟨a1, a2, a3, by simpa using a4, by simpa using a5⟩, b, d, (ids_iff ls c.ledgers).2 ⟨e1, e2⟩, ⟨f'.1, f'.2, by simpa [countsB] using f3⟩, g1, g2, (cursors_iff c.cursors).2 ⟨j1, j2⟩⟩
end Go.Proofs.YtdiamknibfamdaaGreat
/- A region that draws its order, whose operations only read but for calls that make memory: one walk of the lexical order, at the class of all worlds above a world. -/
namespace Go.Proofs.YtdiamknibfamdaaGreat
open Go.RowKit

/-- All worlds above a world, by a letter. -/
theorem below_all (w : World) : ∃ (T : Type) (f : T → World), (∀ n, Below w.heap.size w (f n)) ∧ ∀ W, Below w.heap.size w W → ∃ n, W = f n :=
  ⟨{ W : World // Below w.heap.size w W }, Subtype.val, fun n => n.2, fun W h => ⟨⟨W, h⟩, rfl⟩⟩
theorem wp_region_below {P : Program} {T : Type} (f : T → World) {id : Nat} {Q : Exit → Act → World → Prop} {a : Act} {w : World} {l : List Oper} (hm : P.follows .mixedOrders = true) (hB : Region.lexB .any l.toArray = true)
    {n0 : T} (h0 : w.drew = f n0) (h : wpQuiet P l.toArray (fun w' => ∃ n, w' = f n) (fun a' => ∀ w', (∃ n, w' = f n) → Q .normal a' w') l a) : (Code.region id l.toArray true).wp P Q a w :=
  wp_region_quiet (C := fun w' => ∃ n, w' = f n) hm hB ⟨n0, h0⟩ (by simpa using h)

end Go.Proofs.YtdiamknibfamdaaGreat
/- The references of layer 7: May, by definition. -/
namespace Go.Proofs.YtdiamknibfamdaaGreat
open Go.RowKit Go.Shelf
def LedGood (p : Plan) (i : Nat) : Prop :=
  ∀ l, p.ledgers[i]? = some l → mayLedgerB l = true ∧ l.id < p.next ∧ (∀ (j : Nat) (y : Ledger), j + 1 = i → p.ledgers[j]? = some y → y.id < l.id) ∧ (namedOf p.channels).count l.id = 1
def PastGood (ps : List Past) (i : Nat) : Prop :=
  ∀ x, ps[i]? = some x → (1 ≤ x.who ∧ x.who ≤ 15 ∧ 1 ≤ x.inc ∧ x.inc ≤ 4611686018427387903 ∧ 1 ≤ x.n ∧ x.n ≤ 4611686018427387903 ∧ 0 ≤ x.out.code ∧ x.out.code ≤ 9 ∧ 0 ≤ x.out.owner ∧ x.out.owner ≤ 15 ∧
    x.out.epoch ≤ 4611686018427387903 ∧ x.out.at_ ≤ 4611686018427387903 ∧ x.out.ledger ≤ 4611686018427387903) ∧ ∀ (j : Nat) (y : Past), j + 1 = i → ps[j]? = some y → y.who < x.who
structure RefMay (p : Plan) : Prop where
  head : p.version ≤ 4611686018427387903 ∧ 1 ≤ p.next ∧ p.next ≤ 4611686018427387904 ∧ 1 ≤ p.channels.length ∧ p.channels.length ≤ 3 ∧ p.ledgers.length ≤ 24
  leds : ∀ i, i < p.ledgers.length → LedGood p i
  chans : ∀ (k : Nat) (c : Channel), p.channels[k]? = some c → RefChan p.ledgers c
  past : ∀ i, i < p.past.length → PastGood p.past i

end Go.Proofs.YtdiamknibfamdaaGreat
/- What the reference asks of a plan is what the program asks: plain. -/
namespace Go.Proofs.YtdiamknibfamdaaGreat
open Go.RowKit Go.Shelf

theorem past_iff (ps : List Past) : (∀ i, i < ps.length → PastGood ps i) ↔ riseB (ps.map (·.who)) = true ∧ ps.all pastB = true := by
  rw [rise_get, List.all_eq_true]
  have hp : ∀ x : Past, pastB x = true ↔ (1 ≤ x.who ∧ x.who ≤ 15 ∧ 1 ≤ x.inc ∧ x.inc ≤ 4611686018427387903 ∧ 1 ≤ x.n ∧ x.n ≤ 4611686018427387903 ∧ 0 ≤ x.out.code ∧ x.out.code ≤ 9 ∧ 0 ≤ x.out.owner ∧ x.out.owner ≤ 15 ∧
      x.out.epoch ≤ 4611686018427387903 ∧ x.out.at_ ≤ 4611686018427387903 ∧ x.out.ledger ≤ 4611686018427387903) := fun x => by
    simp only [pastB, fromB, countsB, List.all_cons, List.all_nil, Bool.and_eq_true, decide_eq_true_eq, Bool.and_true]
    omega
  constructor
  · intro h
    refine ⟨fun j a b ha hb => ?_, fun x hx => ?_⟩
    · rw [List.getElem?_map] at ha hb
      obtain ⟨y, hy, rfl⟩ := Option.map_eq_some_iff.1 ha
      obtain ⟨x, hx, rfl⟩ := Option.map_eq_some_iff.1 hb
      exact (h (j + 1) (List.getElem?_eq_some_iff.1 hx).1 x hx).2 j y rfl hy
    · obtain ⟨i, hi⟩ := List.getElem?_of_mem hx
      exact (hp x).2 (h i (List.getElem?_eq_some_iff.1 hi).1 x hi).1
  · rintro ⟨h1, h2⟩ i _ x hx
    refine ⟨(hp x).1 (h2 x (List.mem_of_getElem? hx)), fun j y hj hy => ?_⟩
    subst hj
    exact h1 j y.who x.who (by rw [List.getElem?_map, hy]; rfl) (by rw [List.getElem?_map, hx]; rfl)

theorem named_mem {cs : List Channel} {a : Int} (h : a ∈ namedOf cs) : ∃ c ∈ cs, a ∈ c.ledgers := by
  simpa [namedOf] using h
theorem named_len : ∀ (cs : List Channel), (∀ c ∈ cs, c.ledgers.length ≤ 8) → (namedOf cs).length ≤ 8 * cs.length
  | [], _ => by simp [namedOf]
  | c :: t, h => by
    have h1 := named_len t fun c hc => h c (List.mem_cons_of_mem _ hc)
    have h2 := h c List.mem_cons_self
    simp only [namedOf, List.flatMap_cons, List.length_append, List.length_cons] at h1 ⊢
    omega

/-- What the reference asks of a plan is what the program asks. -/
theorem refMay_iff (p : Plan) (hE : ∀ c ∈ p.channels, 0 ≤ c.epoch) : RefMay p ↔ mayB p = true := by
  unfold mayB
  simp only [Bool.and_eq_true]
  constructor
  · rintro ⟨⟨a1, a2, a3, a4, a5, a6⟩, b, d, e⟩
    have hch : ∀ c ∈ p.channels, channelB p.ledgers c = true := fun c hc => by
      obtain ⟨k, hk⟩ := List.getElem?_of_mem hc
      exact (refChan_iff p.ledgers c (hE c hc)).1 (d k c hk)
    have hri : riseB (p.ledgers.map (·.id)) = true := by
      rw [rise_get]
      intro j x y hx hy
      rw [List.getElem?_map] at hx hy
      obtain ⟨l, hl, rfl⟩ := Option.map_eq_some_iff.1 hx
      obtain ⟨m, hm, rfl⟩ := Option.map_eq_some_iff.1 hy
      exact (b (j + 1) (List.getElem?_eq_some_iff.1 hm).1 m hm).2.2.1 j l rfl hl
    obtain ⟨e1, e2⟩ := (past_iff p.past).1 e
    refine ⟨⟨⟨⟨⟨⟨⟨⟨by simpa [countsB] using a1, by simp [fromB]; omega⟩, by simp [fromB]; omega⟩, ?_⟩, hri⟩, ?_⟩, by rw [List.all_eq_true]; exact hch⟩, e1⟩, e2⟩
    · rw [List.all_eq_true]
      intro l hl
      obtain ⟨i, hi⟩ := List.getElem?_of_mem hl
      obtain ⟨g1, g2, _⟩ := b i (List.getElem?_eq_some_iff.1 hi).1 l hi
      simp [g1, g2]
    · rw [decide_eq_true_eq, List.perm_iff_count]
      intro a
      have hnd := rise_nodup hri
      by_cases ha : a ∈ p.ledgers.map (·.id)
      · obtain ⟨l, hl, rfl⟩ := List.mem_map.1 ha
        obtain ⟨i, hi⟩ := List.getElem?_of_mem hl
        rw [(b i (List.getElem?_eq_some_iff.1 hi).1 l hi).2.2.2]
        rw [hnd.count, if_pos ha]
      · rw [List.count_eq_zero_of_not_mem ha, List.count_eq_zero_of_not_mem]
        intro h1
        obtain ⟨c, hc, h2⟩ := named_mem h1
        obtain ⟨k, hk⟩ := List.getElem?_of_mem hc
        obtain ⟨i, hi⟩ := List.getElem?_of_mem h2
        have h3 := ((d k c hk).ids i (List.getElem?_eq_some_iff.1 hi).1 a hi).1
        obtain ⟨l, hl⟩ := (idx_found _ _).1 h3
        obtain ⟨h4, h5⟩ := findL_id hl
        exact ha (List.mem_map.2 ⟨l, h4, h5⟩)
  · rintro ⟨⟨⟨⟨⟨⟨⟨⟨a1, a2⟩, a3⟩, b⟩, hri⟩, hpm⟩, hch⟩, e1⟩, e2⟩
    have hpm := of_decide_eq_true hpm
    rw [List.all_eq_true] at b hch
    have hnd := rise_nodup hri
    have hrc : ∀ c ∈ p.channels, RefChan p.ledgers c := fun c hc => (refChan_iff p.ledgers c (hE c hc)).2 (hch c hc)
    have a2' : 1 ≤ p.next ∧ p.next ≤ 4611686018427387904 := by simpa [fromB] using a2
    have a3' : (1 : Int) ≤ p.channels.length ∧ (p.channels.length : Int) ≤ 3 := by simpa only [fromB, Bool.and_eq_true, decide_eq_true_eq] using a3
    have hlen := hpm.length_eq
    have hl8 := named_len p.channels fun c hc => (hrc c hc).head.2.2.2.1
    rw [List.length_map] at hlen
    refine ⟨⟨by simpa [countsB] using a1, a2'.1, a2'.2, by omega, by omega, by omega⟩, fun i hi l hl => ?_, fun k c hk => hrc c (List.mem_of_getElem? hk), (past_iff p.past).2 ⟨e1, e2⟩⟩
    have hm := List.mem_of_getElem? hl
    have h1 : mayLedgerB l = true ∧ l.id < p.next := by simpa using b l hm
    refine ⟨h1.1, h1.2, fun j y hj hy => ?_, ?_⟩
    · subst hj
      exact (rise_get _).1 hri j y.id l.id (by rw [List.getElem?_map, hy]; rfl) (by rw [List.getElem?_map, hl]; rfl)
    · rw [(List.perm_iff_count.1 hpm) l.id]
      rw [hnd.count, if_pos (List.mem_map.2 ⟨l, hm, rfl⟩)]
end Go.Proofs.YtdiamknibfamdaaGreat
