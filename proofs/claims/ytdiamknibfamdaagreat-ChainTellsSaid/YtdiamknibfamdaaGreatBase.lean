/- How plans lie in memory: raw records with their slices' headers, what they read as, and the small laws on them. -/
import Derived.Test.YtdiamknibfamdaaGreatData
import Derived.Test.YtdiamknibfamdaaGreatProg
import Derived.WalkKit
import Derived.Deep.QuietTactic
import Derived.BigQuiet
import Derived.Deep.LoopGhost
import Derived.Shelf.Abstract
namespace Go.Proofs.YtdiamknibfamdaaGreat
open Go.RowKit

/-- A slice: its address, its capacity, its elements. -/
structure Sl (α : Type) where
  a : Option Addr
  c : Nat
  xs : List α

/-- Elements: how many cells, which, and what must hold of them besides. -/
structure El (α : Type) where
  k : Nat
  enc : α → List Value
  len : ∀ x, (enc x).length = k
  one : ∀ x, ∀ v ∈ enc x, v.oneCell' = true
  ok : World → α → Prop
  mono : ∀ {w w' : World} {x : α}, ok w x → Below w.heap.size w w' → ok w' x

variable {α : Type}

/-- An element's cells stand there. -/
def At (E : El α) (w : World) (b o : Nat) (x : α) : Prop := ∀ i v, (E.enc x)[i]? = some v → w.cell? ⟨b, o + i, none⟩ = some v

/-- A slice that reads as its elements. -/
structure SlOk (E : El α) (w : World) (s : Sl α) : Prop where
  le : s.xs.length ≤ s.c
  cap : s.c ≤ 9223372036854775807
  nil : s.a = none → s.xs = [] ∧ s.c = 0
  at_ : s.xs ≠ [] → ∃ b off, s.a = some ⟨b, off, none⟩ ∧ b < w.heap.size ∧ ∀ j x, s.xs[j]? = some x → At E w b (off + j * E.k) x
  ok : ∀ x ∈ s.xs, E.ok w x

theorem blt {w w' : World} (h : Below w.heap.size w w') {b : Nat} (hb : b < w.heap.size) : b < w'.heap.size := Nat.lt_of_lt_of_le hb h.size
theorem bthen {a b c : World} (h : Below a.heap.size a b) (k : Below b.heap.size b c) : Below a.heap.size a c := h.trans (k.mono h.size)
theorem balloc {a b : World} (h : Below a.heap.size a b) (o : Obj) : Below a.heap.size a (b.alloc o) := h.alloc h.size o
theorem b1 (a : World) (o : Obj) : Below a.heap.size a (a.alloc o) := balloc (Below.refl _ _) o

theorem At.mono {E : El α} {w w' : World} {b o : Nat} {x : α} (h : At E w b o x) (hb : b < w.heap.size) (hw : Below w.heap.size w w') : At E w' b o x :=
  fun i v hv => (hw.cell (p := ⟨b, o + i, none⟩) hb).trans (h i v hv)

theorem SlOk.mono {E : El α} {w w' : World} {s : Sl α} (h : SlOk E w s) (hw : Below w.heap.size w w') : SlOk E w' s :=
  ⟨h.le, h.cap, h.nil, fun hne => by
    obtain ⟨b, off, ha, hb, hx⟩ := h.at_ hne
    exact ⟨b, off, ha, blt hw hb, fun j x hj => (hx j x hj).mono hb hw⟩, fun x hx => E.mono (h.ok x hx) hw⟩

theorem SlOk.nil_ (E : El α) (w : World) : SlOk E w ⟨none, 0, []⟩ :=
  ⟨Nat.le_refl _, Nat.zero_le _, fun _ => ⟨rfl, rfl⟩, fun h => absurd rfl h, fun _ h => by cases h⟩

theorem SlOk.get {E : El α} {w : World} {s : Sl α} (h : SlOk E w s) {j : Nat} (hj : j < s.xs.length) :
    ∃ b off y, s.a = some ⟨b, off, none⟩ ∧ s.xs[j]? = some y ∧ b < w.heap.size ∧ At E w b (off + j * E.k) y ∧ E.ok w y := by
  obtain ⟨b, off, ha, hb, hx⟩ := h.at_ (fun h0 => by rw [h0] at hj; simp at hj)
  obtain ⟨y, hy⟩ : ∃ y, s.xs[j]? = some y := ⟨_, List.getElem?_eq_getElem hj⟩
  exact ⟨b, off, y, ha, hy, hb, hx j y hy, h.ok y (List.mem_of_getElem? hy)⟩

theorem heap_get (w : World) (o : Obj) (k : Nat) : (w.alloc o).heap[k]? = if k = w.heap.size then some o else w.heap[k]? := by
  show (w.heap.push o)[k]? = _
  rw [Array.getElem?_push]

/-! ### The kinds of elements -/
def eU64 : El Int := ⟨1, fun x => [.int .u64 x], fun _ => rfl, fun x v hv => by simp at hv; subst hv; rfl, fun _ x => U64 x, fun h _ => h⟩
def ePlace : El Place := ⟨2, fun x => [.int .i64 x.node, .int .u64 x.serial], fun _ => rfl, fun x v hv => by simp at hv; rcases hv with rfl | rfl <;> rfl, fun _ x => I64 x.node ∧ U64 x.serial, fun h _ => h⟩
def eMark : El Mark := ⟨3, fun x => [.int .i64 x.producer, .int .u64 x.seq, .int .u64 x.offset], fun _ => rfl, fun x v hv => by simp at hv; rcases hv with rfl | rfl | rfl <;> rfl, fun _ x => I64 x.producer ∧ U64 x.seq ∧ U64 x.offset, fun h _ => h⟩
def eCursor : El Cursor := ⟨2, fun x => [.int .i64 x.sub, .int .u64 x.at_], fun _ => rfl, fun x v hv => by simp at hv; rcases hv with rfl | rfl <;> rfl, fun _ x => I64 x.sub ∧ U64 x.at_, fun h _ => h⟩
def eSpot : El Spot := ⟨3, fun x => [.int .u64 x.offset, .int .u64 x.ledger, .int .u64 x.n], fun _ => rfl, fun x v hv => by simp at hv; rcases hv with rfl | rfl | rfl <;> rfl, fun _ x => U64 x.offset ∧ U64 x.ledger ∧ U64 x.n, fun h _ => h⟩
def Outcome.Ok (x : Outcome) : Prop := I64 x.code ∧ U64 x.epoch ∧ U64 x.at_ ∧ U64 x.ledger ∧ I64 x.owner
def ePast : El Past := ⟨8, fun x => [.int .i64 x.who, .int .u64 x.inc, .int .u64 x.n, .int .i64 x.out.code, .int .u64 x.out.epoch, .int .u64 x.out.at_, .int .u64 x.out.ledger, .int .i64 x.out.owner],
  fun _ => rfl, fun x v hv => by simp at hv; rcases hv with rfl | rfl | rfl | rfl | rfl | rfl | rfl | rfl <;> rfl, fun _ x => I64 x.who ∧ U64 x.inc ∧ U64 x.n ∧ x.out.Ok, fun h _ => h⟩

structure FragR where
  first : Int
  bookies : Sl Place
def FragR.d (x : FragR) : Frag := ⟨x.first, x.bookies.xs⟩
def eFrag : El FragR := ⟨2, fun x => [.int .u64 x.first, .slice x.bookies.a x.bookies.xs.length x.bookies.c], fun _ => rfl, fun x v hv => by simp at hv; rcases hv with rfl | rfl <;> rfl, fun w x => U64 x.first ∧ SlOk ePlace w x.bookies, fun h hw => ⟨h.1, h.2.mono hw⟩⟩

structure LedgerR where
  id : Int
  w : Int
  a : Int
  frags : Sl FragR
  closed : Int
  last : Int
def LedgerR.d (x : LedgerR) : Ledger := ⟨x.id, x.w, x.a, x.frags.xs.map FragR.d, x.closed, x.last⟩
def LedgerR.Ok (W : World) (x : LedgerR) : Prop := U64 x.id ∧ I64 x.w ∧ I64 x.a ∧ SlOk eFrag W x.frags ∧ I64 x.closed ∧ U64 x.last
def eLedger : El LedgerR := ⟨6, fun x => [.int .u64 x.id, .int .i64 x.w, .int .i64 x.a, .slice x.frags.a x.frags.xs.length x.frags.c, .int .i64 x.closed, .int .u64 x.last],
  fun _ => rfl, fun x v hv => by simp at hv; rcases hv with rfl | rfl | rfl | rfl | rfl | rfl <;> rfl, LedgerR.Ok, fun h hw => ⟨h.1, h.2.1, h.2.2.1, h.2.2.2.1.mono hw, h.2.2.2.2⟩⟩

structure ChannelR where
  epoch : Int
  owner : Int
  inc : Int
  renewed : Int
  first : Int
  trim : Int
  ledgers : Sl Int
  seen : Sl Mark
  cursors : Sl Cursor
def ChannelR.d (x : ChannelR) : Channel := ⟨x.epoch, x.owner, x.inc, x.renewed, x.first, x.trim, x.ledgers.xs, x.seen.xs, x.cursors.xs⟩
structure ChannelR.Ok (W : World) (x : ChannelR) : Prop where
  epoch : U64 x.epoch
  owner : I64 x.owner
  inc : U64 x.inc
  renewed : U64 x.renewed
  first : U64 x.first
  trim : U64 x.trim
  ledgers : SlOk eU64 W x.ledgers
  seen : SlOk eMark W x.seen
  cursors : SlOk eCursor W x.cursors
def eChannel : El ChannelR := ⟨9, fun x => [.int .u64 x.epoch, .int .i64 x.owner, .int .u64 x.inc, .int .u64 x.renewed, .int .u64 x.first, .int .u64 x.trim, .slice x.ledgers.a x.ledgers.xs.length x.ledgers.c, .slice x.seen.a x.seen.xs.length x.seen.c, .slice x.cursors.a x.cursors.xs.length x.cursors.c],
  fun _ => rfl, fun x v hv => by simp at hv; rcases hv with rfl | rfl | rfl | rfl | rfl | rfl | rfl | rfl | rfl <;> rfl, ChannelR.Ok, fun h hw => ⟨h.epoch, h.owner, h.inc, h.renewed, h.first, h.trim, h.ledgers.mono hw, h.seen.mono hw, h.cursors.mono hw⟩⟩

structure PlanR where
  version : Int
  next : Int
  channels : Sl ChannelR
  ledgers : Sl LedgerR
  past : Sl Past
def PlanR.d (x : PlanR) : Plan := ⟨x.version, x.next, x.channels.xs.map ChannelR.d, x.ledgers.xs.map LedgerR.d, x.past.xs⟩
structure PlanR.Ok (W : World) (x : PlanR) : Prop where
  version : U64 x.version
  next : U64 x.next
  channels : SlOk eChannel W x.channels
  ledgers : SlOk eLedger W x.ledgers
  past : SlOk ePast W x.past
theorem PlanR.Ok.mono {w w' : World} {x : PlanR} (h : x.Ok w) (hw : Below w.heap.size w w') : x.Ok w' := ⟨h.version, h.next, h.channels.mono hw, h.ledgers.mono hw, h.past.mono hw⟩
abbrev PlanR.v (x : PlanR) : Value := .agg #[.int .u64 x.version, .int .u64 x.next, .slice x.channels.a x.channels.xs.length x.channels.c, .slice x.ledgers.a x.ledgers.xs.length x.ledgers.c, .slice x.past.a x.past.xs.length x.past.c]
abbrev LedgerR.v (x : LedgerR) : Value := .agg #[.int .u64 x.id, .int .i64 x.w, .int .i64 x.a, .slice x.frags.a x.frags.xs.length x.frags.c, .int .i64 x.closed, .int .u64 x.last]
abbrev FragR.v (x : FragR) : Value := .agg #[.int .u64 x.first, .slice x.bookies.a x.bookies.xs.length x.bookies.c]
abbrev ChannelR.v (x : ChannelR) : Value := .agg #[.int .u64 x.epoch, .int .i64 x.owner, .int .u64 x.inc, .int .u64 x.renewed, .int .u64 x.first, .int .u64 x.trim, .slice x.ledgers.a x.ledgers.xs.length x.ledgers.c, .slice x.seen.a x.seen.xs.length x.seen.c, .slice x.cursors.a x.cursors.xs.length x.cursors.c]
abbrev Place.v (x : Place) : Value := .agg #[.int .i64 x.node, .int .u64 x.serial]
abbrev Mark.v (x : Mark) : Value := .agg #[.int .i64 x.producer, .int .u64 x.seq, .int .u64 x.offset]
abbrev Cursor.v (x : Cursor) : Value := .agg #[.int .i64 x.sub, .int .u64 x.at_]
abbrev Spot.v (x : Spot) : Value := .agg #[.int .u64 x.offset, .int .u64 x.ledger, .int .u64 x.n]
abbrev Outcome.v (x : Outcome) : Value := .agg #[.int .i64 x.code, .int .u64 x.epoch, .int .u64 x.at_, .int .u64 x.ledger, .int .i64 x.owner]
abbrev Past.v (x : Past) : Value := .agg #[.int .i64 x.who, .int .u64 x.inc, .int .u64 x.n, .int .i64 x.out.code, .int .u64 x.out.epoch, .int .u64 x.out.at_, .int .u64 x.out.ledger, .int .i64 x.out.owner]

/-! ### An element's cells, one by one -/
theorem at_u64 {w : World} {b o : Nat} {x : Int} (h : At eU64 w b o x) : w.cell? ⟨b, o, none⟩ = some (.int .u64 x) := h 0 _ rfl
theorem at_place {w : World} {b o : Nat} {x : Place} (h : At ePlace w b o x) : w.cell? ⟨b, o, none⟩ = some (.int .i64 x.node) ∧ w.cell? ⟨b, o + 1, none⟩ = some (.int .u64 x.serial) := ⟨h 0 _ rfl, h 1 _ rfl⟩
theorem at_mark {w : World} {b o : Nat} {x : Mark} (h : At eMark w b o x) : w.cell? ⟨b, o, none⟩ = some (.int .i64 x.producer) ∧ w.cell? ⟨b, o + 1, none⟩ = some (.int .u64 x.seq) ∧ w.cell? ⟨b, o + 2, none⟩ = some (.int .u64 x.offset) := ⟨h 0 _ rfl, h 1 _ rfl, h 2 _ rfl⟩
theorem at_cursor {w : World} {b o : Nat} {x : Cursor} (h : At eCursor w b o x) : w.cell? ⟨b, o, none⟩ = some (.int .i64 x.sub) ∧ w.cell? ⟨b, o + 1, none⟩ = some (.int .u64 x.at_) := ⟨h 0 _ rfl, h 1 _ rfl⟩
theorem at_spot {w : World} {b o : Nat} {x : Spot} (h : At eSpot w b o x) : w.cell? ⟨b, o, none⟩ = some (.int .u64 x.offset) ∧ w.cell? ⟨b, o + 1, none⟩ = some (.int .u64 x.ledger) ∧ w.cell? ⟨b, o + 2, none⟩ = some (.int .u64 x.n) := ⟨h 0 _ rfl, h 1 _ rfl, h 2 _ rfl⟩
theorem at_frag {w : World} {b o : Nat} {x : FragR} (h : At eFrag w b o x) : w.cell? ⟨b, o, none⟩ = some (.int .u64 x.first) ∧ w.cell? ⟨b, o + 1, none⟩ = some (.slice x.bookies.a x.bookies.xs.length x.bookies.c) := ⟨h 0 _ rfl, h 1 _ rfl⟩
theorem at_past {w : World} {b o : Nat} {x : Past} (h : At ePast w b o x) : w.cell? ⟨b, o, none⟩ = some (.int .i64 x.who) ∧ w.cell? ⟨b, o + 1, none⟩ = some (.int .u64 x.inc) ∧ w.cell? ⟨b, o + 2, none⟩ = some (.int .u64 x.n) ∧
    w.cell? ⟨b, o + 3, none⟩ = some (.int .i64 x.out.code) ∧ w.cell? ⟨b, o + 4, none⟩ = some (.int .u64 x.out.epoch) ∧ w.cell? ⟨b, o + 5, none⟩ = some (.int .u64 x.out.at_) ∧ w.cell? ⟨b, o + 6, none⟩ = some (.int .u64 x.out.ledger) ∧ w.cell? ⟨b, o + 7, none⟩ = some (.int .i64 x.out.owner) :=
  ⟨h 0 _ rfl, h 1 _ rfl, h 2 _ rfl, h 3 _ rfl, h 4 _ rfl, h 5 _ rfl, h 6 _ rfl, h 7 _ rfl⟩
theorem at_ledger {w : World} {b o : Nat} {x : LedgerR} (h : At eLedger w b o x) : w.cell? ⟨b, o, none⟩ = some (.int .u64 x.id) ∧ w.cell? ⟨b, o + 1, none⟩ = some (.int .i64 x.w) ∧ w.cell? ⟨b, o + 2, none⟩ = some (.int .i64 x.a) ∧
    w.cell? ⟨b, o + 3, none⟩ = some (.slice x.frags.a x.frags.xs.length x.frags.c) ∧ w.cell? ⟨b, o + 4, none⟩ = some (.int .i64 x.closed) ∧ w.cell? ⟨b, o + 5, none⟩ = some (.int .u64 x.last) :=
  ⟨h 0 _ rfl, h 1 _ rfl, h 2 _ rfl, h 3 _ rfl, h 4 _ rfl, h 5 _ rfl⟩
theorem at_channel {w : World} {b o : Nat} {x : ChannelR} (h : At eChannel w b o x) : w.cell? ⟨b, o, none⟩ = some (.int .u64 x.epoch) ∧ w.cell? ⟨b, o + 1, none⟩ = some (.int .i64 x.owner) ∧ w.cell? ⟨b, o + 2, none⟩ = some (.int .u64 x.inc) ∧
    w.cell? ⟨b, o + 3, none⟩ = some (.int .u64 x.renewed) ∧ w.cell? ⟨b, o + 4, none⟩ = some (.int .u64 x.first) ∧ w.cell? ⟨b, o + 5, none⟩ = some (.int .u64 x.trim) ∧ w.cell? ⟨b, o + 6, none⟩ = some (.slice x.ledgers.a x.ledgers.xs.length x.ledgers.c) ∧
    w.cell? ⟨b, o + 7, none⟩ = some (.slice x.seen.a x.seen.xs.length x.seen.c) ∧ w.cell? ⟨b, o + 8, none⟩ = some (.slice x.cursors.a x.cursors.xs.length x.cursors.c) :=
  ⟨h 0 _ rfl, h 1 _ rfl, h 2 _ rfl, h 3 _ rfl, h 4 _ rfl, h 5 _ rfl, h 6 _ rfl, h 7 _ rfl, h 8 _ rfl⟩

/-! ### Rows of elements as rows of cells -/
theorem flat_len (E : El α) (xs : List α) : (xs.flatMap E.enc).length = xs.length * E.k := by
  induction xs with
  | nil => simp
  | cons x xs ih => simp [List.flatMap_cons, ih, E.len, Nat.succ_mul, Nat.add_comm]
theorem flat_one (E : El α) (xs : List α) : ∀ u ∈ xs.flatMap E.enc, u.oneCell' = true := by
  intro u hu
  obtain ⟨x, _, hx⟩ := List.mem_flatMap.1 hu
  exact E.one x u hx
theorem flat_at (E : El α) : ∀ (xs : List α) (q i : Nat) (x : α) (u : Value), xs[q]? = some x → (E.enc x)[i]? = some u → (xs.flatMap E.enc)[q * E.k + i]? = some u
  | [], q, i, x, u, h, _ => by simp at h
  | y :: ys, 0, i, x, u, h, hu => by
    simp at h
    subst h
    rw [List.flatMap_cons, Nat.zero_mul, Nat.zero_add, List.getElem?_append_left (List.getElem?_eq_some_iff.1 hu).1]
    exact hu
  | y :: ys, q + 1, i, x, u, h, hu => by
    rw [List.flatMap_cons, List.getElem?_append_right (by rw [E.len, Nat.succ_mul]; omega), E.len, show (q + 1) * E.k + i - E.k = q * E.k + i by rw [Nat.succ_mul]; omega]
    exact flat_at E ys q i x u (by simpa using h) hu
theorem flat_get (E : El α) : ∀ (xs : List α) (j : Nat) (u : Value), (xs.flatMap E.enc)[j]? = some u → ∃ q i x, j = q * E.k + i ∧ xs[q]? = some x ∧ (E.enc x)[i]? = some u
  | [], j, u, h => by simp at h
  | y :: ys, j, u, h => by
    rw [List.flatMap_cons] at h
    by_cases hj : j < (E.enc y).length
    · rw [List.getElem?_append_left hj] at h
      exact ⟨0, j, y, by simp, rfl, h⟩
    · rw [List.getElem?_append_right (by omega)] at h
      obtain ⟨q, i, x, hj', hx, hu⟩ := flat_get E ys _ u h
      exact ⟨q + 1, i, x, by rw [E.len] at hj hj'; rw [Nat.succ_mul]; omega, by simpa using hx, hu⟩
/-- The cells of a slice that reads as its elements, as one row. -/
theorem SlOk.cells {E : El α} {w : World} {s : Sl α} (h : SlOk E w s) {ad : Addr} (ha : s.a = some ad) : ∀ j u, (s.xs.flatMap E.enc)[j]? = some u → w.cell? (ad.add j) = some u := by
  intro j u hj
  obtain ⟨q, i, x, rfl, hx, hu⟩ := flat_get E s.xs j u hj
  obtain ⟨b, off, ha', hb, hat⟩ := h.at_ (fun h0 => by rw [h0] at hx; simp at hx)
  rw [ha] at ha'
  cases ha'
  have := hat q x hx i u hu
  rw [Addr.add_lit]
  rwa [Nat.add_assoc] at this
/-- An owned row reads as its elements. -/
theorem own_ok {E : El α} {w : World} {base : Nat} {t : TypeId} {v : Value} {xs : List α} (h : w.ownsRow base t E.k v xs.length (xs.flatMap E.enc)) (hk : ∀ x ∈ xs, E.ok w x) :
    ∃ a c, v = .slice a xs.length c ∧ SlOk E w ⟨a, c, xs⟩ := by
  obtain ⟨_, ⟨rfl, h0⟩ | ⟨g, cap, cur, rfl, _, hg, hle, hm, _, ht⟩⟩ := h
  · have hx : xs = [] := List.eq_nil_of_length_eq_zero h0
    subst hx
    exact ⟨none, 0, rfl, SlOk.nil_ E w⟩
  · refine ⟨_, cap, rfl, hle, hm, (fun h => by cases h), fun _ => ⟨g, 0, rfl, (Array.getElem?_eq_some_iff.1 hg).1, fun j x hj i v hv => ?_⟩, hk⟩
    have h1 := flat_at E xs j i x v hj hv
    rw [← ht] at h1
    have h2 : cur.toList[j * E.k + i]? = some v := by
      rw [List.getElem?_take] at h1
      split at h1
      · exact h1
      · cases h1
    rw [World.cell?, hg]
    simpa using h2

theorem ret_i64 {a b : Int} (h : a = b) : Ending.returned (.int .i64 a) = .returned (.int .i64 b) := by rw [h]
theorem ret_u64 {a b : Int} (h : a = b) : Ending.returned (.int .u64 a) = .returned (.int .u64 b) := by rw [h]
theorem ret_bool {a b : Bool} (h : a = b) : Ending.returned (.bool a) = .returned (.bool b) := by rw [h]

/-! ### A region that draws its order, whose operations yield one value each in every world of a class -/
theorem region_cls {P : Program} (C : World → Prop) {id : Nat} {Q : Exit → Act → World → Prop} {a : Act} {w : World} {l : List Oper} (hm : P.follows .mixedOrders = true) (hB : Region.lexB .any l.toArray = true)
    (hC : C { w with drawn := w.drawn + 1 }) (h : wpQuiet P l.toArray C (fun a' => ∀ w', C w' → Q .normal a' w') l a) : (Code.region id l.toArray true).wp P Q a w :=
  wp_region_quiet (C := C) hm hB hC (by simpa using h)

end Go.Proofs.YtdiamknibfamdaaGreat
