/- A ledger copied; a ledger found. -/
import Derived.Test.YtdiamknibfamdaaGreatOwn
import Derived.Test.YtdiamknibfamdaaGreatMayL
import Derived.Test.YtdiamknibfamdaaGreatFar
namespace Go.Proofs.YtdiamknibfamdaaGreat
open Go.RowKit Go.Shelf

structure LedgerOwn (base : Nat) (w : World) (l : LedgerR) : Prop where
  row : w.ownsRow base 113 2 (.slice l.frags.a l.frags.xs.length l.frags.c) l.frags.xs.length (l.frags.xs.flatMap eFrag.enc)
  each : ∀ f ∈ l.frags.xs, FragOwn base w f
  apart : l.frags.xs.Pairwise FragApart
def LedgerMade (l : LedgerR) (w : World) (e : Ending) (w' : World) : Prop := ∃ l' : LedgerR, e = .returned l'.v ∧ l'.d = l.d ∧ eLedger.ok w' l' ∧ LedgerOwn w.heap.size w' l' ∧ Below w.heap.size w w'

theorem ledger_ok {base : Nat} {w w' : World} {l : LedgerR} (h : LedgerOwn base w' l) (hl : eLedger.ok w l) : eLedger.ok w' l := by
  obtain ⟨a, c, hv, hs⟩ := own_ok (E := eFrag) h.row (fun f hf => frag_ok (h.each f hf) (hl.2.2.2.1.ok f hf))
  obtain ⟨id, wd, ac, ⟨fa, fc, fx⟩, cl, la⟩ := l
  cases hv
  exact ⟨hl.1, hl.2.1, hl.2.2.1, hs, hl.2.2.2.2⟩
theorem LedgerOwn.far {lo hi base : Nat} {w w' : World} {l : LedgerR} (h : Far lo hi w w') (ho : LedgerOwn base w l) (hb : hi ≤ base) : LedgerOwn base w' l :=
  ⟨h.own ho.row hb, fun f hf => h.own (ho.each f hf) hb, ho.apart⟩
theorem LedgerOwn.weaken {base base' : Nat} {w : World} {l : LedgerR} (ho : LedgerOwn base w l) (hb : base' ≤ base) : LedgerOwn base' w l :=
  ⟨own_weaken ho.row hb, fun f hf => own_weaken (ho.each f hf) hb, ho.apart⟩
theorem LedgerOwn.below {base : Nat} {w w' : World} {l : LedgerR} (ho : LedgerOwn base w l) (hb : Below w.heap.size w w') : LedgerOwn base w' l :=
  ⟨own_below ho.row hb, fun f hf => own_below (ho.each f hf) hb, ho.apart⟩

theorem ledger_made {w W w1 wF : World} {id wd ac cl la : Int} {s s' : Sl FragR} {hi : Nat} (hl : LedgerR.Ok w ⟨id, wd, ac, s, cl, la⟩) (hd : s'.xs.map FragR.d = s.xs.map FragR.d) (hs : SlOk eFrag w1 s')
    (ho : w1.ownsRow W.heap.size 113 2 (.slice s'.a s'.xs.length s'.c) s'.xs.length (s'.xs.flatMap eFrag.enc)) (he : ∀ y ∈ s'.xs, FragOwn W.heap.size w1 y) (ha : s'.xs.Pairwise FragApart) (hb : Below w.heap.size w w1) (hW : hi ≤ W.heap.size ∧ w.heap.size ≤ hi)
    (hF : Far w.heap.size hi w1 wF) : LedgerMade ⟨id, wd, ac, s, cl, la⟩ w (.returned (LedgerR.v ⟨id, wd, ac, s', cl, la⟩)) wF := by
  have h1 : LedgerOwn W.heap.size wF ⟨id, wd, ac, s', cl, la⟩ := LedgerOwn.far hF ⟨ho, he, ha⟩ hW.1
  exact ⟨⟨id, wd, ac, s', cl, la⟩, rfl, by simp [LedgerR.d, hd], ledger_ok h1 (w := w1) ⟨hl.1, hl.2.1, hl.2.2.1, hs, hl.2.2.2.2⟩, h1.weaken (by omega), hF.below hb (Nat.le_refl _)⟩

set_option maxHeartbeats 2000000 in
set_option maxRecDepth 100000 in
theorem ownLedger90 (l : LedgerR) (w : World) (hl : eLedger.ok w l) (hb : LedgerSmall l) : Calls Tryz.prog 90 #[l.v] w (LedgerMade l w) := by
  obtain ⟨id, wd, ac, s, cl, la⟩ := l
  have hm := fun W (hW : Below w.heap.size w W) => mapped137 s W (hl.2.2.2.1.mono hW) hb.1 (fun x hx => by have h := hb.2 x hx; unfold FragSmall at h; omega)
  have HL : Aside (LedgerR.Ok w ⟨id, wd, ac, s, cl, la⟩) := hl
  clear hl hb
  go_enter Tryz.func90, Tryz.ntmps90
  go_wp2_with fail
  refine (hm _ (balloc (b1 _ _) _)).mono ?_
  rintro e w1 ⟨⟨fa, fc, fx⟩, rfl, hd, hs', ho', hes, hap, hb'⟩
  obtain ⟨c0, c1, c2, c3, c4, c5, f0, f1, f2, f3, f4, f5⟩ := cells6 ((hb'.block w.heap.size (by simp; omega)).trans (heap2_0 w _ _))
  obtain ⟨d0, d1, d2, d3, d4, d5, g0, g1, g2, g3, g4, g5⟩ := cells6 ((hb'.block (w.heap.size + 1) (by simp)).trans (heap2_1 w _ _))
  have hz : w.heap.size + 1 < w1.heap.size := by have := hb'.size; simp at this; omega
  have HD : Aside _ := hd
  have HO : Aside _ := ho'
  have HE : Aside _ := hes
  have HA : Aside _ := hap
  have HS : Aside _ := hs'
  have HB : Aside _ := hb'
  clear hd hs' ho' hes hap hb' hm
  dsimp only
  go_wp2
  refine bodyPost_ret (v := LedgerR.v ⟨id, wd, ac, ⟨fa, fc, fx⟩, cl, la⟩) (by simp [results, Tryz.results90, go_sem, d0, d1, d2, d3, d4, d5]) rfl ?_
  refine ledger_made HL.out HD.out HS.out HO.out HE.out HA.out (bthen (balloc (b1 w _) _) HB.out) (by simp) (hi := w.heap.size + 2) ?_
  repeat (first | (with_reducible refine far_set ?_ ⟨by simp, by simp⟩) | (with_reducible exact far_refl _ _ _))
theorem findClosure89 (l : LedgerR) (B : Nat) (id : Int) (W : World) (hB : B < W.heap.size) (hcell : W.cell? ⟨B, 0, none⟩ = some (.int .u64 id)) :
    Calls Tryz.prog 89 #[l.v, .pointer (some ⟨B, 0, none⟩)] W fun e w' => e = .returned (.bool (decide (l.id = id))) ∧ Below W.heap.size W w' := by
  have hne : B ≠ W.heap.size := by omega
  have hq : (l.id == id) = decide (l.id = id) := by rw [Bool.eq_iff_iff]; simp
  go_enter Tryz.func89, Tryz.ntmps89
  go_wp2
  go_ret
  exact ⟨rfl, b1 _ _⟩
theorem enters89 : ∀ args w, (callFunc 89 args).run Tryz.prog w = .ok (.enter 89 args) w := enters_of Tryz.func89 (by kernel_rfl) rfl

theorem findL_map (xs : List LedgerR) (id : Int) : findL (xs.map LedgerR.d) id = (xs.find? fun x => decide (x.id = id)).map LedgerR.d := by
  unfold findL
  rw [List.find?_map]
  rfl
theorem idxB_find {α : Type} (p : α → Bool) (xs : List α) (y : α) (h : xs.find? p = some y) : ∃ k : Nat, idxB p xs = (k : Int) ∧ xs[k]? = some y ∧ k < xs.length := by
  have hany : xs.any p = true := List.any_eq_true.2 ⟨y, List.mem_of_find?_eq_some h, List.find?_some h⟩
  refine ⟨xs.findIdx p, by simp [idxB, hany], ?_, ?_⟩
  · rw [← List.find?_eq_getElem?_findIdx]
    exact h
  · exact List.findIdx_lt_length_of_exists (by simpa [List.any_eq_true] using hany)
theorem idxB_none {α : Type} (p : α → Bool) (xs : List α) (h : xs.find? p = none) : idxB p xs = -1 := by
  have : xs.any p = false := by
    rw [List.any_eq_false]
    intro x hx
    have := List.find?_eq_none.1 h x hx
    simpa using this
  simp [idxB, this]

/-- What was found: the ledger, in memory of its own, or nothing. -/
def Found (o : Option Ledger) (w : World) (e : Ending) (w' : World) : Prop :=
  ∃ l' : LedgerR, e = .returned (.tuple #[l'.v, .bool o.isSome]) ∧ l'.d = o.getD ⟨0, 0, 0, [], 0, 0⟩ ∧ eLedger.ok w' l' ∧ LedgerOwn w.heap.size w' l' ∧ Below w.heap.size w w'

theorem heap3_0 (w : World) (A B C : Obj) : (((w.alloc A).alloc B).alloc C).heap[w.heap.size]? = some A := by rw [heap_get, if_neg (by simp; omega), heap2_0]
theorem heap3_1 (w : World) (A B C : Obj) : (((w.alloc A).alloc B).alloc C).heap[w.heap.size + 1]? = some B := by rw [heap_get, if_neg (by simp), heap2_1]
theorem heap3_2 (w : World) (A B C : Obj) : (((w.alloc A).alloc B).alloc C).heap[w.heap.size + 1 + 1]? = some C := by rw [heap_get, if_pos (by simp)]

/-- No row of a plan is beyond all bounds. -/
structure PlanSmall (p : PlanR) : Prop where
  channels : p.channels.xs.length ≤ 1000000
  ledgers : p.ledgers.xs.length ≤ 1000000
  past : p.past.xs.length ≤ 1000000
  each : ∀ l ∈ p.ledgers.xs, LedgerSmall l
  rows : ∀ c ∈ p.channels.xs, c.ledgers.xs.length ≤ 1000 ∧ c.seen.xs.length ≤ 1000000 ∧ c.cursors.xs.length ≤ 1000000


theorem ledger_nil (base : Nat) (w : World) (i w' a c l : Int) : LedgerOwn base w ⟨i, w', a, ⟨none, 0, []⟩, c, l⟩ :=
  ⟨⟨by simp, .inl ⟨rfl, rfl⟩⟩, (fun _ h => by cases h), List.Pairwise.nil⟩
theorem found_none {w w1 wF : World} {hi : Nat} (hb : Below w.heap.size w w1) {lo : Nat} (hlo : w.heap.size ≤ lo) (hF : Far lo hi w1 wF) : Found (Option.map LedgerR.d none) w (.returned (.tuple #[LedgerR.v ⟨0, 0, 0, ⟨none, 0, []⟩, 0, 0⟩, .bool false])) wF :=
  ⟨⟨0, 0, 0, ⟨none, 0, []⟩, 0, 0⟩, rfl, rfl, ⟨by simp [U64], by simp [I64], by simp [I64], SlOk.nil_ _ _, by simp [I64], by simp [U64]⟩, ledger_nil _ _ _ _ _ _ _, hF.below hb hlo⟩
theorem found_some {w w2 wF : World} {y : Ledger} {l' : LedgerR} {b lo hi : Nat} (hb : Below w.heap.size w w2) (hd : l'.d = y) (ho : eLedger.ok w2 l') (hlo : LedgerOwn b w2 l') (hbw : w.heap.size ≤ b) (h : w.heap.size ≤ lo) (hh : hi ≤ b) (hF : Far lo hi w2 wF) :
    Found (some y) w (.returned (.tuple #[l'.v, .bool true])) wF :=
  ⟨l', rfl, hd, ledger_ok (LedgerOwn.far hF hlo hh) (w := w2) ho, (LedgerOwn.far hF hlo hh).weaken hbw, hF.below hb h⟩

set_option maxHeartbeats 2000000 in
set_option maxRecDepth 100000 in
theorem find42 (p : PlanR) (id : Int) (w : World) (hp : p.Ok w) (hb : PlanSmall p) : Calls Tryz.prog 42 #[p.v, .int .u64 id] w (Found (findL p.d.ledgers id) w) := by
  have hix := fun W (hW : Below w.heap.size w W) (hc : W.cell? ⟨w.heap.size + 1, 0, none⟩ = some (.int .u64 id)) (hlt : w.heap.size + 1 < W.heap.size) =>
    indexFunc88 p.ledgers (fun x => decide (x.id = id)) 89 #[.pointer (some ⟨w.heap.size + 1, 0, none⟩)] enters89 W (hp.ledgers.mono hW) (fun W' x _ hb' => findClosure89 x (w.heap.size + 1) id W' (blt hb' hlt) ((hb'.cell (p := ⟨w.heap.size + 1, 0, none⟩) hlt).trans hc))
  have hlen := hb.ledgers
  have hle := hp.ledgers.le
  have hcap := hp.ledgers.cap
  have e0 : findL p.d.ledgers id = (p.ledgers.xs.find? fun x => decide (x.id = id)).map LedgerR.d := findL_map _ _
  rw [e0]
  obtain ⟨pv, pn, ⟨ca, cc, cs⟩, ⟨la, lc, ls⟩, ⟨pa, pc, ps⟩⟩ := p
  dsimp only at hix hlen hle hcap ⊢
  cases hf : ls.find? fun x => decide (x.id = id) with
  | none =>
    rw [idxB_none _ _ hf] at hix
    clear hf hp hb e0
    go_enter Tryz.func42, Tryz.ntmps42
    go_wp2_with fail
    refine (hix _ (balloc (balloc (b1 _ _) _) _) (cells1 (heap3_1 w _ _ _)).1 (by simp)).mono ?_
    rintro e w1 ⟨rfl, hb'⟩
    obtain ⟨d0, d1, d2, d3, d4, d5, g0, g1, g2, g3, g4, g5⟩ := cells6 ((hb'.block (w.heap.size + 1 + 1) (by simp)).trans (heap3_2 w _ _ _))
    have hz : w.heap.size + 1 + 1 < w1.heap.size := by have := hb'.size; simp at this; omega
    have HB : Aside _ := hb'
    clear hb' hix
    dsimp only
    go_wp2
    refine bodyPost_ret (v := .tuple #[LedgerR.v ⟨0, 0, 0, ⟨none, 0, []⟩, 0, 0⟩, .bool false]) (by simp [results, Tryz.results42, go_sem, d0, d1, d2, d3, d4, d5]) rfl ?_
    exact found_none (lo := w.heap.size + 1 + 1) (hi := w.heap.size + 1 + 1 + 1) (bthen (balloc (balloc (b1 w _) _) _) HB.out) (by omega) (by repeat (first | (with_reducible refine far_set ?_ ⟨by simp, by simp⟩) | (with_reducible exact far_refl _ _ _)))
  | some y =>
    obtain ⟨k, hk, hy, hkl⟩ := idxB_find _ _ _ hf
    rw [hk] at hix
    have hown := fun W (hW : Below w.heap.size w W) => ownLedger90 y W (eLedger.mono (hp.ledgers.ok y (List.mem_of_getElem? hy)) hW) (hb.each y (List.mem_of_getElem? hy))
    obtain ⟨b, off, y', ha, hy', hbk, hat, _⟩ := hp.ledgers.get (j := k) hkl
    rw [hy] at hy'
    cases hy'
    have hc := at_ledger hat
    dsimp only at ha
    simp only [show eLedger.k = 6 from rfl] at hc
    subst ha
    clear hf hy hat hk hp hb e0
    have hkz : (k : Int) < (ls.length : Int) := by omega
    go_enter Tryz.func42, Tryz.ntmps42
    go_wp2_with fail
    refine (hix _ (balloc (balloc (b1 _ _) _) _) (cells1 (heap3_1 w _ _ _)).1 (by simp)).mono ?_
    rintro e w1 ⟨rfl, hb'⟩
    obtain ⟨q0, q1, q2, q3, q4, r0, r1, r2, r3, r4⟩ := cells5 ((hb'.block w.heap.size (by simp; omega)).trans (heap3_0 w _ _ _))
    have hB3 := (hb'.block (w.heap.size + 1 + 1) (by simp)).trans (heap3_2 w _ _ _)
    have hz : w.heap.size + 1 + 1 < w1.heap.size := by have := hb'.size; simp at this; omega
    have hB1 := bthen (balloc (balloc (b1 w _) _) _) hb'
    obtain ⟨e0, e1, e2, e3, e4, e5⟩ := hc
    have m0 := (hB1.cell (p := ⟨b, off + k * 6, none⟩) hbk).trans e0
    have m1 := (hB1.cell (p := ⟨b, off + k * 6 + 1, none⟩) hbk).trans e1
    have m2 := (hB1.cell (p := ⟨b, off + k * 6 + 2, none⟩) hbk).trans e2
    have m3 := (hB1.cell (p := ⟨b, off + k * 6 + 3, none⟩) hbk).trans e3
    have m4 := (hB1.cell (p := ⟨b, off + k * 6 + 4, none⟩) hbk).trans e4
    have m5 := (hB1.cell (p := ⟨b, off + k * 6 + 5, none⟩) hbk).trans e5
    have HB : Aside _ := hB1
    clear e0 e1 e2 e3 e4 e5 hb' hB1 hix
    dsimp only
    go_wp2_with fail
    refine (hown _ HB.out).mono ?_
    rintro e w2 ⟨⟨id', wd, ac, ⟨fa, fc, fx⟩, cl, la'⟩, rfl, hd, ho, hlo, hb2⟩
    obtain ⟨d0', d1', d2', d3', d4', d5', g0', g1', g2', g3', g4', g5'⟩ := cells6 ((hb2.block (w.heap.size + 1 + 1) hz).trans (hB3))
    have hz2 : w.heap.size + 1 + 1 < w2.heap.size := Nat.lt_of_lt_of_le hz hb2.size
    have HD : Aside _ := hd
    have HO : Aside _ := ho
    have HLO : Aside _ := hlo
    have HB2 : Aside _ := hb2
    clear hd ho hlo hb2 hown hB3
    dsimp only
    go_wp2
    refine bodyPost_ret (v := .tuple #[LedgerR.v ⟨id', wd, ac, ⟨fa, fc, fx⟩, cl, la'⟩, .bool true]) (by simp [results, Tryz.results42, go_sem, d0', d1', d2', d3', d4', d5']) rfl ?_
    exact found_some (lo := w.heap.size + 1 + 1) (hi := w.heap.size + 1 + 1 + 1) (bthen HB.out HB2.out) HD.out HO.out HLO.out (by omega) (by omega) (by omega) (by repeat (first | (with_reducible refine far_set ?_ ⟨by simp, by simp⟩) | (with_reducible exact far_refl _ _ _)))

end Go.Proofs.YtdiamknibfamdaaGreat
