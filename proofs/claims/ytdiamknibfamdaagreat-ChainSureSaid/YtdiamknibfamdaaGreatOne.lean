/- chain.one: a spot that is so. -/
import Derived.Test.YtdiamknibfamdaaGreatLen
namespace Go.Proofs.YtdiamknibfamdaaGreat
open Go.RowKit Go.Shelf
attribute [local go_sem] Oper.semAt_some

def oneB (p : Plan) (ch sure : Int) (q : Spot → Bool) : Spot × Int :=
  if chainHasB p ch then (match (spotsB p ch sure).find? q with | some s => (s, 0) | none => (⟨0, 0, 0⟩, 4)) else (⟨0, 0, 0⟩, 1)

theorem heap4_0 (w : World) (A B C D : Obj) : ((((w.alloc A).alloc B).alloc C).alloc D).heap[w.heap.size]? = some A := by rw [heap_get, if_neg (by simp; omega), heap3_0]
theorem heap4_1 (w : World) (A B C D : Obj) : ((((w.alloc A).alloc B).alloc C).alloc D).heap[w.heap.size + 1]? = some B := by rw [heap_get, if_neg (by simp), heap3_1]
theorem heap4_2 (w : World) (A B C D : Obj) : ((((w.alloc A).alloc B).alloc C).alloc D).heap[w.heap.size + 1 + 1]? = some C := by rw [heap_get, if_neg (by simp), heap3_2]
theorem heap4_3 (w : World) (A B C D : Obj) : ((((w.alloc A).alloc B).alloc C).alloc D).heap[w.heap.size + 1 + 1 + 1]? = some D := by rw [heap_get, if_pos (by simp)]

theorem keepsFrom_below {B : Nat} {W W' : World} (h : Below W.heap.size W W') : KeepsFrom B W W' := ⟨h.size, fun _ _ _ hk _ => box_mono hk h⟩
theorem heap_setSame (W : World) (k i : Nat) (v : Value) {c : Array Value} {t : TypeId} {fr : Nat × Nat} (h : W.heap[k]? = some (.cells c t fr)) : (W.setCell ⟨k, i, none⟩ v).heap[k]? = some (.cells (c.setIfInBounds i v) t fr) := by
  obtain ⟨hlt, hk⟩ := Array.getElem?_eq_some_iff.1 h
  show (W.heap.modify k _)[k]? = _
  rw [Array.getElem?_eq_getElem (by rw [Array.size_modify]; exact hlt), Array.getElem_modify_self, hk]
  simp
theorem heap_setOther (W : World) (k k' i : Nat) (v : Value) {o : Obj} (hne : k ≠ k') (h : W.heap[k]? = some o) : (W.setCell ⟨k', i, none⟩ v).heap[k]? = some o := (Below.heap_setCell _ _ _ _ hne).trans h
/-- A struct of three stored whole, and a number beside it. -/
theorem stored4 {W : World} {R E : Nat} {a b c e x y z u : Value} {t t' : TypeId} (hne : R ≠ E) (hR : W.heap[R]? = some (.cells #[a, b, c] t (0, 0))) (hE : W.heap[E]? = some (.cells #[e] t' (0, 0))) :
    ((((W.setCell ⟨R, 0, none⟩ x).setCell ⟨R, 1, none⟩ y).setCell ⟨R, 2, none⟩ z).setCell ⟨E, 0, none⟩ u).heap[R]? = some (.cells #[x, y, z] t (0, 0)) ∧
    ((((W.setCell ⟨R, 0, none⟩ x).setCell ⟨R, 1, none⟩ y).setCell ⟨R, 2, none⟩ z).setCell ⟨E, 0, none⟩ u).heap[E]? = some (.cells #[u] t' (0, 0)) :=
  ⟨heap_setOther _ _ _ _ _ hne (heap_setSame _ _ _ _ (heap_setSame _ _ _ _ (heap_setSame _ _ _ _ hR))), heap_setSame _ _ _ _ (heap_setOther _ _ _ _ _ hne.symm (heap_setOther _ _ _ _ _ hne.symm (heap_setOther _ _ _ _ _ hne.symm hE)))⟩
theorem find_none_of {xs : List SX} {SS : List Spot} {q : Spot → Bool} (h : xs.map SX.d = SS) (hq : ∀ x ∈ xs, q (SX.d x) = false) : SS.find? q = none := by
  rw [← h, List.find?_eq_none]
  intro y hy
  obtain ⟨x, hx, rfl⟩ := List.mem_map.1 hy
  simp [hq x hx]
theorem find_some_of {pre : List SX} {x : SX} {SS : List Spot} {q : Spot → Bool} (h : (pre ++ [x]).map SX.d <+: SS) (hq : ∀ y ∈ pre, q (SX.d y) = false) (hx : q (SX.d x) = true) : SS.find? q = some (SX.d x) := by
  obtain ⟨t, ht⟩ := h
  rw [← ht, List.map_append, List.append_assoc, List.find?_append, find_none_of rfl hq]
  simp [hx]

set_option maxHeartbeats 4000000 in
set_option maxRecDepth 100000 in
theorem one63 (n : Nat) (hn1 : 5 ≤ n) (p : PlanR) (ch sure : Int) (q : Spot → Bool) (g : Nat) (lb : Array Value) (eg : ∀ args w, (callFunc g args).run Tryz.prog w = .ok (.enter g args) w) (w : World) (hp : p.Ok w) (hb : PlanSmall p) (hs : U64 sure)
    (hq : ∀ (W : World) (x : Spot), Below w.heap.size w W → Calls Tryz.prog g (#[x.v] ++ lb) W fun e w' => e = .returned (.bool (q x)) ∧ Below W.heap.size W w') :
    CallsIn Fence.wide n Tryz.prog 63 #[p.v, .int .i64 ch, .int .u64 sure, .func (.func g) #[] lb] w fun e w' => e = .returned (.tuple #[(oneB p.d ch sure q).1.v, .int .i64 (oneB p.d ch sure q).2]) ∧ Below w.heap.size w w' := by
  have hhas := fun W (hW : Below w.heap.size w W) => has65 p ch W (hp.mono hW) hb
  have hmk := fun W => spots46 p ch sure W
  have hsp := fun W0 B1 B2 B3 (h : Below w.heap.size w W0) h1 h2 h3 hW => spots93 NoSpot (by decide) (by decide) (by decide) (by decide) (n - 1) hW p ch sure B1 B2 B3 w W0 hp hb hs h h1 h2 h3
  have HN : Hid _ := hn1
  clear hn1
  cases hh : chainHasB p.d ch with
  | false =>
    have e0 : oneB p.d ch sure q = (⟨0, 0, 0⟩, 1) := by unfold oneB; rw [hh]; rfl
    rw [e0]
    simp only [hh] at hhas
    clear e0 hsp hmk hp hb hs hq hh
    obtain ⟨pv, pn, ⟨ca, cc, cs⟩, ⟨la, lc, ls⟩, ⟨pa, pc, ps⟩⟩ := p
    dsimp only at *
    refine callsIn_of_wp_marks Tryz.func63 rfl trivial ?_ rfl
    simp only [Tryz.ntmps63, List.size_toArray, List.length_cons, List.length_nil, Nat.reduceAdd, Nat.reduceSub, Array.replicate_succ, Array.replicate_zero, List.push_toArray, List.append_toArray, List.nil_append, List.cons_append]
    gi_wp2_with fail
    refine ⟨trivial, fun h => (by cases h), (callsIn_wide.2 (hhas _ (balloc (balloc (balloc (b1 _ _) _) _) _))).mono ?_⟩
    rintro x w3 ⟨rfl, hb3⟩
    have hR := box_mono (heap4_2 w _ _ _ _) hb3
    have hE := box_mono (heap4_3 w _ _ _ _) hb3
    obtain ⟨d0, d1, d2, f0, f1, f2⟩ := cells3 hR
    obtain ⟨e0, e1⟩ := cells1 hE
    have hz1 := box_lt hR
    have hz2 := box_lt hE
    have HB3 : Aside _ := hb3
    clear hR hE hb3
    dsimp only
    gi_wp2
    refine ⟨.tuple #[Spot.v ⟨0, 0, 0⟩, .int .i64 1], (by simp [results, Tryz.results63, go_sem, d0, d1, d2, e0]), rfl, ?_⟩
    exact Far.below (lo := w.heap.size + 1 + 1) (hi := w.heap.size + 1 + 1 + 1 + 1) (by repeat (first | (with_reducible refine far_set ?_ ⟨by simp, by simp; try omega⟩) | (with_reducible exact far_refl _ _ _))) (bthen (balloc (balloc (balloc (b1 w _) _) _) _) HB3.out) (by omega)
  | true =>
    have e0 : oneB p.d ch sure q = (match (spotsB p.d ch sure).find? q with | some s => (s, 0) | none => (⟨0, 0, 0⟩, 4)) := by unfold oneB; rw [hh]; rfl
    simp only [hh] at hhas
    generalize oneB p.d ch sure q = rr at e0 ⊢
    generalize spotsB p.d ch sure = SS at hsp e0
    have E0 : Hid _ := e0
    clear e0 hp hb hs hh
    obtain ⟨pv, pn, ⟨ca, cc, cs⟩, ⟨la, lc, ls⟩, ⟨pa, pc, ps⟩⟩ := p
    dsimp only at *
    refine callsIn_of_wp_marks Tryz.func63 rfl trivial ?_ rfl
    simp only [Tryz.ntmps63, List.size_toArray, List.length_cons, List.length_nil, Nat.reduceAdd, Nat.reduceSub, Array.replicate_succ, Array.replicate_zero, List.push_toArray, List.append_toArray, List.nil_append, List.cons_append]
    gi_wp2_with fail
    refine ⟨trivial, fun h => (by cases h), (callsIn_wide.2 (hhas _ (balloc (balloc (balloc (b1 _ _) _) _) _))).mono ?_⟩
    rintro x w3 ⟨rfl, hb3⟩
    have hP := box_mono (heap4_0 w _ _ _ _) hb3
    have hF := box_mono (heap4_1 w _ _ _ _) hb3
    have hR := box_mono (heap4_2 w _ _ _ _) hb3
    have hE := box_mono (heap4_3 w _ _ _ _) hb3
    have hB3 := bthen (balloc (balloc (balloc (b1 w _) _) _) _) hb3
    obtain ⟨q0, q1, q2, q3, q4, r0, r1, r2, r3, r4⟩ := cells5 hP
    have hz2 := box_lt hE
    clear hP hb3 hhas
    dsimp only
    gi_wp2_with fail
    refine ⟨trivial, fun h => (by cases h), (callsIn_wide.2 (hmk w3)).mono ?_⟩
    rintro x w4 ⟨rfl, rfl⟩
    dsimp only
    gi_wp2_with fail
    have h0a := heap3_0 w3 (.cells #[.int .u64 pv, .int .u64 pn, .slice ca cs.length cc, .slice la ls.length lc, .slice pa ps.length pc] 27 (0, 0)) (.cells #[.int .i64 ch] 3 (0, 0)) (.cells #[.int .u64 sure] 22 (0, 0))
    have h0b := heap3_1 w3 (.cells #[.int .u64 pv, .int .u64 pn, .slice ca cs.length cc, .slice la ls.length lc, .slice pa ps.length pc] 27 (0, 0)) (.cells #[.int .i64 ch] 3 (0, 0)) (.cells #[.int .u64 sure] 22 (0, 0))
    have h0c := heap3_2 w3 (.cells #[.int .u64 pv, .int .u64 pn, .slice ca cs.length cc, .slice la ls.length lc, .slice pa ps.length pc] 27 (0, 0)) (.cells #[.int .i64 ch] 3 (0, 0)) (.cells #[.int .u64 sure] 22 (0, 0))
    have hb4 : Below w3.heap.size w3 (((w3.alloc (.cells #[.int .u64 pv, .int .u64 pn, .slice ca cs.length cc, .slice la ls.length lc, .slice pa ps.length pc] 27 (0, 0))).alloc (.cells #[.int .i64 ch] 3 (0, 0))).alloc (.cells #[.int .u64 sure] 22 (0, 0))) := balloc (balloc (b1 _ _) _) _
    have hsz : (((w3.alloc (.cells #[.int .u64 pv, .int .u64 pn, .slice ca cs.length cc, .slice la ls.length lc, .slice pa ps.length pc] 27 (0, 0))).alloc (.cells #[.int .i64 ch] 3 (0, 0))).alloc (.cells #[.int .u64 sure] 22 (0, 0))).heap.size = w3.heap.size + 3 := by simp
    obtain ⟨W0, hW0⟩ : ∃ W0, ((w3.alloc (.cells #[.int .u64 pv, .int .u64 pn, .slice ca cs.length cc, .slice la ls.length lc, .slice pa ps.length pc] 27 (0, 0))).alloc (.cells #[.int .i64 ch] 3 (0, 0))).alloc (.cells #[.int .u64 sure] 22 (0, 0)) = W0 := ⟨_, rfl⟩
    rw [hW0] at h0a h0b h0c hb4 hsz ⊢
    clear hW0
    have hF0 := box_mono hF hb4
    have hR0 := box_mono hR hb4
    have hE0 := box_mono hE hb4
    have hB0 := bthen hB3 hb4
    have hn0 := hB0.size
    have hseq := hsp W0 w3.heap.size (w3.heap.size + 1) (w3.heap.size + 2) hB0 h0a h0b h0c (by have := HN.out; omega)
    have HEG : Aside _ := eg
    have HQ : Aside _ := hq
    clear hsp hF hR hE hmk h0a h0b h0c hB3 hb4 hq
    refine wpIn_rangeFunc_mine rfl (by have := HN.out; omega) (gf := 93) (lb := #[.pointer (some ⟨w3.heap.size, 0, none⟩), .pointer (some ⟨w3.heap.size + 1, 0, none⟩), .pointer (some ⟨w3.heap.size + 2, 0, none⟩)]) rfl trivial (enters_of Tryz.func93 (by kernel_rfl) rfl) hseq
      (fun h k => h.trans k) (fun W o o' ho hc _ => Kept.putObj o' (by omega) ho hc) (Below.refl _ _) (fun _ => rfl)
      (fun pre W => ((∀ x ∈ pre, q (SX.d x) = false) ∧ W.heap[w.heap.size + 1]? = some (Obj.cells #[.func (.func g) #[] lb] 104 (0, 0)) ∧ W.heap[w.heap.size + 1 + 1]? = some (Obj.cells #[.int .u64 0, .int .u64 0, .int .u64 0] 33 (0, 0)) ∧ W.heap[w.heap.size + 1 + 1 + 1]? = some (Obj.cells #[.int .i64 0] 34 (0, 0))) ∧ Below w.heap.size w W)
      (fun c pre W => (c = .ret ∧ ∃ pre' x, pre = pre' ++ [x] ∧ (∀ y ∈ pre', q (SX.d y) = false) ∧ q (SX.d x) = true ∧ W.heap[w.heap.size + 1 + 1]? = some (Obj.cells #[.int .u64 x.1.offset, .int .u64 x.1.ledger, .int .u64 x.1.n] 33 (0, 0)) ∧ W.heap[w.heap.size + 1 + 1 + 1]? = some (Obj.cells #[.int .i64 0] 34 (0, 0))) ∧ Below w.heap.size w W)
      (fun s A B row hs hg hr => ⟨⟨hs.1.1, box_own hs.1.2.1 hg hr, box_own hs.1.2.2.1 hg hr, box_own hs.1.2.2.2 hg hr⟩, (ownFrom_below (Nat.le_refl _) (by omega)) s A B row hs.2 hg hr⟩)
      (fun c s A B row hs hg hr => by obtain ⟨⟨h1, pre', x, h2, h3, h4, h5, h6⟩, h7⟩ := hs; exact ⟨⟨h1, pre', x, h2, h3, h4, box_own h5 hg hr, box_own h6 hg hr⟩, (ownFrom_below (Nat.le_refl _) (by omega)) s A B row h7 hg hr⟩)
      ⟨⟨(fun _ h => by cases h), hF0, hR0, hE0⟩, hB0⟩
      (fun x a' W => ∃ Bx, W.heap[Bx]? = some (Obj.cells #[.int .u64 x.1.offset, .int .u64 x.1.ledger, .int .u64 x.1.n] 33 (0, 0)) ∧ a' = { tmps := #[.agg #[.int .u64 pv, .int .u64 pn, .slice ca cs.length cc, .slice la ls.length lc, .slice pa ps.length pc], .int .i64 ch, .int .u64 sure, .func (.func g) #[] lb, .pointer (some ⟨w.heap.size, 0, none⟩), undef, undef, .pointer (some ⟨w.heap.size + 1, 0, none⟩), .pointer (some ⟨w.heap.size + 1 + 1, 0, none⟩), .pointer (some ⟨w.heap.size + 1 + 1 + 1, 0, none⟩), .pointer (some ⟨Bx, 0, none⟩), .agg #[.int .u64 pv, .int .u64 pn, .slice ca cs.length cc, .slice la ls.length lc, .slice pa ps.length pc], .int .i64 ch, .bool true, .bool false, undef, .agg #[.int .u64 pv, .int .u64 pn, .slice ca cs.length cc, .slice la ls.length lc, .slice pa ps.length pc], .int .i64 ch, .int .u64 sure, .func (.func 93) #[] #[.pointer (some ⟨w3.heap.size, 0, none⟩), .pointer (some ⟨w3.heap.size + 1, 0, none⟩), .pointer (some ⟨w3.heap.size + 2, 0, none⟩)], x.1.v, undef, undef, undef, undef, undef], defers := [] })
      (fun x a' _ A B row hs hg hr => by obtain ⟨Bx, h1, h2⟩ := hs; exact ⟨Bx, box_own h1 hg hr, h2⟩)
      ?assign ?body ?done ?stop
    case assign =>
      rintro l' pre x Wc K ⟨⟨h1, h2, h3, h4⟩, hB⟩ hK
      have hsc := hB.size
      dsimp only [SX.encs]
      gi_wp2
      exact hK _ _ ((KeepsOthers.alloc _ _).from _) (Kept.of_below (b1 _ _) (by omega)) ⟨⟨h1, box_mono h2 (b1 _ _), box_mono h3 (b1 _ _), box_mono h4 (b1 _ _)⟩, balloc hB _⟩ ⟨Wc.heap.size, heap_top _ _ _ rfl, rfl⟩
    case body =>
      rintro l' pre x a' Wc hl ⟨r, hr⟩ ⟨⟨h1, h2, h3, h4⟩, hB⟩ ⟨Bx, hbx, rfl⟩ hlen
      obtain ⟨d0, d1, d2, f0, f1, f2⟩ := cells3 hbx
      obtain ⟨g0, g1⟩ := cells1 h2
      have eg := HEG.out
      have hlx := box_lt hbx
      have hly := box_lt h4
      gi_wp2_with fail
      refine ⟨trivial, fun h => (by cases h), (CallsIn.inRound l' (callsIn_wide.2 (HQ.out Wc x.1 hB))).mono ?_⟩
      rintro e w5 ⟨rfl, hb5⟩
      have hbx5 := box_mono hbx hb5
      have hF5 := box_mono h2 hb5
      have hR5 := box_mono h3 hb5
      have hE5 := box_mono h4 hb5
      obtain ⟨d0, d1, d2, f0, f1, f2⟩ := cells3 hbx5
      obtain ⟨t0, t1, t2, u0, u1, u2⟩ := cells3 hR5
      obtain ⟨v0, v1⟩ := cells1 hE5
      have hz5 := box_lt hE5
      have hz6 := box_lt hbx5
      have HB5 : Aside _ := hb5
      have H1 : Aside _ := h1
      have HB : Aside _ := hB
      have HF5 : Aside _ := hF5
      have HR5 : Aside _ := hR5
      have HE5 : Aside _ := hE5
      have hdx : q (SX.d x) = q x.1 := rfl
      clear hb5 h1 hB hF5 hR5 hE5 h2 h3 h4 hbx5 hbx
      cases hqx : q x.1 with
      | false =>
        dsimp only
        gi_wp2
        refine ⟨keepsFrom_below HB5.out, Kept.of_below HB5.out (by have := HB.out.size; omega), ⟨fun y hy => ?_, HF5.out, HR5.out, HE5.out⟩, bthen HB.out HB5.out⟩
        rcases List.mem_append.1 hy with h | h
        · exact H1.out y h
        · obtain rfl : y = x := by simpa using h
          exact hdx.trans hqx
      | true =>
        dsimp only
        gi_wp2
        have hst := stored4 (W := w5) (x := .int .u64 x.1.offset) (y := .int .u64 x.1.ledger) (z := .int .u64 x.1.n) (u := .int .i64 0) (show w.heap.size + 1 + 1 ≠ w.heap.size + 1 + 1 + 1 by omega) HR5.out HE5.out
        refine ⟨?_, ⟨rfl, pre, x, rfl, H1.out, hdx.trans hqx, hst.1, hst.2⟩, Far.below (lo := w.heap.size + 1 + 1) (hi := w.heap.size + 1 + 1 + 1 + 1) (by repeat (first | (with_reducible refine far_set ?_ ⟨by simp; try omega, by simp; try omega⟩) | (with_reducible exact far_refl _ _ _))) (bthen HB.out HB5.out) (by omega)⟩
        exact (keepsFrom_below HB5.out).trans ((((KeepsOthers.setCell _ _ _).trans (KeepsOthers.setCell _ _ _)).trans (KeepsOthers.setCell _ _ _)).trans (KeepsOthers.setCell _ _ _) |>.from _)
    case done =>
      rintro D xs W' hD hS ⟨⟨h1, h2, h3, h4⟩, hB⟩ hDd
      have hrr : rr = (⟨0, 0, 0⟩, 4) := by rw [E0.out, find_none_of hS h1]
      subst hrr
      obtain ⟨t0, t1, t2, u0, u1, u2⟩ := cells3 h3
      obtain ⟨v0, v1⟩ := cells1 h4
      have hz := box_lt hDd
      have hzE := box_lt h4
      have H3 : Aside _ := h3
      have H4 : Aside _ := h4
      have HB : Aside _ := hB
      have HD : Aside _ := hDd
      clear h2 h3 h4 hB hDd
      gi_wp2
      have hst := stored4 (W := W') (x := .int .u64 0) (y := .int .u64 0) (z := .int .u64 0) (u := .int .i64 4) (show w.heap.size + 1 + 1 ≠ w.heap.size + 1 + 1 + 1 by omega) H3.out H4.out
      have hkd := ((((KeepsOthers.setCell W' ⟨w.heap.size + 1 + 1, 0, none⟩ (.int .u64 0)).trans (KeepsOthers.setCell _ ⟨w.heap.size + 1 + 1, 1, none⟩ (.int .u64 0))).trans (KeepsOthers.setCell _ ⟨w.heap.size + 1 + 1, 2, none⟩ (.int .u64 0))).trans (KeepsOthers.setCell _ ⟨w.heap.size + 1 + 1 + 1, 0, none⟩ (.int .i64 4))).same D _ HD.out rfl
      refine ⟨by simp, .inl ⟨_, _, rfl, run_takeDeferred hkd, ?_⟩⟩
      have k1 := cells3 ((World.putObj_heap_other (o := .deferred none) (show w.heap.size + 1 + 1 ≠ D by omega)).trans hst.1)
      have k2 := cells1 ((World.putObj_heap_other (o := .deferred none) (show w.heap.size + 1 + 1 + 1 ≠ D by omega)).trans hst.2)
      refine ⟨.tuple #[Spot.v ⟨0, 0, 0⟩, .int .i64 4], (by simp [results, Tryz.results63, go_sem, k1.1, k1.2.1, k1.2.2.1, k2.1]), rfl, ?_⟩
      refine Below.trans ?_ (belowK_b (w := w) (Nat.le_refl _) _ D _ _ (by omega) hkd rfl rfl)
      exact Far.below (lo := w.heap.size + 1 + 1) (hi := w.heap.size + 1 + 1 + 1 + 1) (by repeat (first | (with_reducible refine far_set ?_ ⟨by simp; try omega, by simp; try omega⟩) | (with_reducible exact far_refl _ _ _))) HB.out (by omega)
    case stop =>
      rintro D c pre W' hD hSp ⟨⟨rfl, pre', x, rfl, h3, h4, h5, h6⟩, hB⟩ hDd
      have hrr : rr = (SX.d x, 0) := by rw [E0.out, find_some_of hSp h3 h4]
      subst hrr
      have HD : Aside _ := hDd
      have hz := box_lt hDd
      have hzE := box_lt h6
      clear hDd
      gi_wp2
      refine ⟨by simp, .inl ⟨_, _, rfl, run_takeDeferred HD.out, ?_⟩⟩
      have k1 := cells3 ((World.putObj_heap_other (w := W') (o := .deferred none) (show w.heap.size + 1 + 1 ≠ D by omega)).trans h5)
      have k2 := cells1 ((World.putObj_heap_other (w := W') (o := .deferred none) (show w.heap.size + 1 + 1 + 1 ≠ D by omega)).trans h6)
      refine ⟨.tuple #[Spot.v x.1, .int .i64 0], (by simp [results, Tryz.results63, go_sem, k1.1, k1.2.1, k1.2.2.1, k2.1]), rfl, ?_⟩
      exact hB.trans (belowK_b (w := w) (Nat.le_refl _) _ D _ _ (by omega) HD.out rfl rfl)
end Go.Proofs.YtdiamknibfamdaaGreat
