/- chain.one: a spot that is so. -/
import Derived.Test.YtdiamknibfamdaaGreatLen
namespace Go.Proofs.YtdiamknibfamdaaGreat
open Go.RowKit Go.Shelf
attribute [local go_sem] Oper.semAt_some

def oneB (p : Plan) (ch sure : Int) (q : Spot → Bool) : Spot × Int :=
  if chainHasB p ch then (match (spotsB p ch sure).find? q with | some s => (s, 0) | none => (⟨0, 0, 0⟩, 4)) else (⟨0, 0, 0⟩, 1)

theorem heap4_0 (w : World) (A B C D : Obj) : ((((w.alloc A).alloc B).alloc C).alloc D).heap[w.heap.size]? = some A := by rw [heap_get, if_neg (by simp; omega), heap3_0]
theorem heap4_1 (w : World) (A B C D : Obj) : ((((w.alloc A).alloc B).alloc C).alloc D).heap[w.heap.size + 1]? = some B := by rw [heap_get, if_neg (by simp), heap3_1]
theorem heap4_2 (w : World) (A B C D : Obj) : ((((w.alloc A).alloc B).alloc C).alloc D).heap[w.heap.size + 1 + 1]? = some C := by rw [heap_get, if_neg (by simp), heap3_2]
theorem heap4_3 (w : World) (A B C D : Obj) : ((((w.alloc A).alloc B).alloc C).alloc D).heap[w.heap.size + 1 + 1 + 1]? = some D := by rw [heap_get, if_pos (by simp)]

theorem keepsFrom_below {B : Nat} {W W' : World} (h : Below W.heap.size W W') : KeepsFrom B W W' := ⟨h.size, fun _ _ _ hk _ => box_mono hk h⟩
theorem heap_setSame (W : World) (k i : Nat) (v : Value) {c : Array Value} {t : TypeId} {fr : Nat × Nat} (h : W.heap[k]? = some (.cells c t fr)) : (W.setCell ⟨k, i, none⟩ v).heap[k]? = some (.cells (c.setIfInBounds i v) t fr) := by
  obtain ⟨hlt, hk⟩ := Array.getElem?_eq_some_iff.1 h
  show (W.heap.modify k _)[k]? = _
  rw [Array.getElem?_eq_getElem (by rw [Array.size_modify]; exact hlt), Array.getElem_modify_self, hk]
  simp
theorem heap_setOther (W : World) (k k' i : Nat) (v : Value) {o : Obj} (hne : k ≠ k') (h : W.heap[k]? = some o) : (W.setCell ⟨k', i, none⟩ v).heap[k]? = some o := (Below.heap_setCell _ _ _ _ hne).trans h
/-- A struct of three stored whole, and a number beside it. -/
theorem stored4 {W : World} {R E : Nat} {a b c e x y z u : Value} {t t' : TypeId} (hne : R ≠ E) (hR : W.heap[R]? = some (.cells #[a, b, c] t (0, 0))) (hE : W.heap[E]? = some (.cells #[e] t' (0, 0))) :
    ((((W.setCell ⟨R, 0, none⟩ x).setCell ⟨R, 1, none⟩ y).setCell ⟨R, 2, none⟩ z).setCell ⟨E, 0, none⟩ u).heap[R]? = some (.cells #[x, y, z] t (0, 0)) ∧
    ((((W.setCell ⟨R, 0, none⟩ x).setCell ⟨R, 1, none⟩ y).setCell ⟨R, 2, none⟩ z).setCell ⟨E, 0, none⟩ u).heap[E]? = some (.cells #[u] t' (0, 0)) :=
  ⟨heap_setOther _ _ _ _ _ hne (heap_setSame _ _ _ _ (heap_setSame _ _ _ _ (heap_setSame _ _ _ _ hR))), heap_setSame _ _ _ _ (heap_setOther _ _ _ _ _ hne.symm (heap_setOther _ _ _ _ _ hne.symm (heap_setOther _ _ _ _ _ hne.symm hE)))⟩
theorem find_none_of {xs : List SX} {SS : List Spot} {q : Spot → Bool} (h : xs.map SX.d = SS) (hq : ∀ x ∈ xs, q (SX.d x) = false) : SS.find? q = none := by
  rw [← h, List.find?_eq_none]
  intro y hy
  obtain ⟨x, hx, rfl⟩ := List.mem_map.1 hy
  simp [hq x hx]
theorem find_some_of {pre : List SX} {x : SX} {SS : List Spot} {q : Spot → Bool} (h : (pre ++ [x]).map SX.d <+: SS) (hq : ∀ y ∈ pre, q (SX.d y) = false) (hx : q (SX.d x) = true) : SS.find? q = some (SX.d x) := by
  obtain ⟨t, ht⟩ := h
  rw [← ht, List.map_append, List.append_assoc, List.find?_append, find_none_of rfl hq]
  simp [hx]

set_option maxHeartbeats 4000000 in
set_option maxRecDepth 100000 in
theorem one63 (n : Nat) (hn1 : 5 ≤ n) (p : PlanR) (ch sure : Int) (q : Spot → Bool) (g : Nat) (lb : Array Value) (eg : ∀ args w, (callFunc g args).run Tryz.prog w = .ok (.enter g args) w) (w : World) (hp : p.Ok w) (hb : PlanSmall p) (hs : U64 sure)
    (hq : ∀ (W : World) (x : Spot), Below w.heap.size w W → Calls Tryz.prog g (#[x.v] ++ lb) W fun e w' => e = .returned (.bool (q x)) ∧ Below W.heap.size W w') :
    CallsIn Fence.wide n Tryz.prog 63 #[p.v, .int .i64 ch, .int .u64 sure, .func (.func g) #[] lb] w fun e w' => e = .returned (.tuple #[(oneB p.d ch sure q).1.v, .int .i64 (oneB p.d ch sure q).2]) ∧ Below w.heap.size w w' := by
  have hhas := fun W (hW : Below w.heap.size w W) => has65 p ch W (hp.mono hW) hb
  have hmk := fun W => spots46 p ch sure W
  have hsp := fun W0 B1 B2 B3 (h : Below w.heap.size w W0) h1 h2 h3 hW => spots93 NoSpot (by decide) (by decide) (by decide) (by decide) (n - 1) hW p ch sure B1 B2 B3 w W0 hp hb hs h h1 h2 h3
  have HN : Hid _ := hn1
  clear hn1
  cases hh : chainHasB p.d ch with
  | false =>
    have e0 : oneB p.d ch sure q = (⟨0, 0, 0⟩, 1) := by unfold oneB; rw [hh]; rfl
    rw [e0]
    simp only [hh] at hhas
    clear e0 hsp hmk hp hb hs hq hh
    obtain ⟨pv, pn, ⟨ca, cc, cs⟩, ⟨la, lc, ls⟩, ⟨pa, pc, ps⟩⟩ := p
    dsimp only at *
    refine callsIn_of_wp_marks Tryz.func63 rfl trivial ?_ rfl
    simp only [Tryz.ntmps63, List.size_toArray, List.length_cons, List.length_nil, Nat.reduceAdd, Nat.reduceSub, Array.replicate_succ, Array.replicate_zero, List.push_toArray, List.append_toArray, List.nil_append, List.cons_append]
    gi_wp2_with fail
    refine ⟨trivial, fun h => (by cases h), (callsIn_wide.2 (hhas _ (balloc (balloc (balloc (b1 _ _) _) _) _))).mono ?_⟩
    rintro x w3 ⟨rfl, hb3⟩
    have hR := box_mono (heap4_2 w _ _ _ _) hb3
    have hE := box_mono (heap4_3 w _ _ _ _) hb3
    obtain ⟨d0, d1, d2, f0, f1, f2⟩ := cells3 hR
    obtain ⟨e0, e1⟩ := cells1 hE
    have hz1 := box_lt hR
    have hz2 := box_lt hE
    have HB3 : Aside _ := hb3
    clear hR hE hb3
    dsimp only
    gi_wp2
    refine ⟨.tuple #[Spot.v ⟨0, 0, 0⟩, .int .i64 1], (by simp [results, Tryz.results63, go_sem, d0, d1, d2, e0]), rfl, ?_⟩
    exact Far.below (lo := w.heap.size + 1 + 1) (hi := w.heap.size + 1 + 1 + 1 + 1) (by repeat (first | (with_reducible refine far_set ?_ ⟨by simp, by simp; try omega⟩) | (with_reducible exact far_refl _ _ _))) (bthen (balloc (balloc (balloc (b1 w _) _) _) _) HB3.out) (by omega)
  | true =>
    have e0 : oneB p.d ch sure q = (match (spotsB p.d ch sure).find? q with | some s => (s, 0) | none => (⟨0, 0, 0⟩, 4)) := by unfold oneB; rw [hh]; rfl
    simp only [hh] at hhas
    generalize oneB p.d ch sure q = rr at e0 ⊢
    generalize spotsB p.d ch sure = SS at hsp e0
    have E0 : Hid _ := e0
    clear e0 hp hb hs hh
    obtain ⟨pv, pn, ⟨ca, cc, cs⟩, ⟨la, lc, ls⟩, ⟨pa, pc, ps⟩⟩ := p
    dsimp only at *
    refine callsIn_of_wp_marks Tryz.func63 rfl trivial ?_ rfl
    simp only [Tryz.ntmps63, List.size_toArray, List.length_cons, List.length_nil, Nat.reduceAdd, Nat.reduceSub, Array.replicate_succ, Array.replicate_zero, List.push_toArray, List.append_toArray, List.nil_append, List.cons_append]
    gi_wp2_with fail
    refine ⟨trivial, fun h => (by cases h), (callsIn_wide.2 (hhas _ (balloc (balloc (balloc (b1 _ _) _) _) _))).mono ?_⟩
    rintro x w3 ⟨rfl, hb3⟩
    have hP := box_mono (heap4_0 w _ _ _ _) hb3
    have hF := box_mono (heap4_1 w _ _ _ _) hb3
    have hR := box_mono (heap4_2 w _ _ _ _) hb3
    have hE := box_mono (heap4_3 w _ _ _ _) hb3
    have hB3 := bthen (balloc (balloc (balloc (b1 w _) _) _) _) hb3
    obtain ⟨q0, q1, q2, q3, q4, r0, r1, r2, r3, r4⟩ := cells5 hP
    have hz2 := box_lt hE
    clear hP hb3 hhas
    dsimp only
    gi_wp2_with fail
    refine ⟨trivial, fun h => (by cases h), (callsIn_wide.2 (hmk w3)).mono ?_⟩
    rintro x w4 ⟨rfl, rfl⟩
    dsimp only
    gi_wp2_with fail
    have h0a := heap3_0 w3 (.cells #[.int .u64 pv, .int .u64 pn, .slice ca cs.length cc, .slice la ls.length lc, .slice pa ps.length pc] 27 (0, 0)) (.cells #[.int .i64 ch] 3 (0, 0)) (.cells #[.int .u64 sure] 22 (0, 0))
    have h0b := heap3_1 w3 (.cells #[.int .u64 pv, .int .u64 pn, .slice ca cs.length cc, .slice la ls.length lc, .slice pa ps.length pc] 27 (0, 0)) (.cells #[.int .i64 ch] 3 (0, 0)) (.cells #[.int .u64 sure] 22 (0, 0))
    have h0c := heap3_2 w3 (.cells #[.int .u64 pv, .int .u64 pn, .slice ca cs.length cc, .slice la ls.length lc, .slice pa ps.length pc] 27 (0, 0)) (.cells #[.int .i64 ch] 3 (0, 0)) (.cells #[.int .u64 sure] 22 (0, 0))
    have hb4 : Below w3.heap.size w3 (((w3.alloc (.cells #[.int .u64 pv, .int .u64 pn, .slice ca cs.length cc, .slice la ls.length lc, .slice pa ps.length pc] 27 (0, 0))).alloc (.cells #[.int .i64 ch] 3 (0, 0))).alloc (.cells #[.int .u64 sure] 22 (0, 0))) := balloc (balloc (b1 _ _) _) _
    have hsz : (((w3.alloc (.cells #[.int .u64 pv, .int .u64 pn, .slice ca cs.length cc, .slice la ls.length lc, .slice pa ps.length pc] 27 (0, 0))).alloc (.cells #[.int .i64 ch] 3 (0, 0))).alloc (.cells #[.int .u64 sure] 22 (0, 0))).heap.size = w3.heap.size + 3 := by simp
    obtain ⟨W0, hW0⟩ : ∃ W0, ((w3.alloc (.cells #[.int .u64 pv, .int .u64 pn, .slice ca cs.length cc, .slice la ls.length lc, .slice pa ps.length pc] 27 (0, 0))).alloc (.cells #[.int .i64 ch] 3 (0, 0))).alloc (.cells #[.int .u64 sure] 22 (0, 0)) = W0 := ⟨_, rfl⟩
    rw [hW0] at h0a h0b h0c hb4 hsz ⊢
    clear hW0
    have hF0 := box_mono hF hb4
    have hR0 := box_mono hR hb4
    have hE0 := box_mono hE hb4
    have hB0 := bthen hB3 hb4
    have hn0 := hB0.size
    have hseq := hsp W0 w3.heap.size (w3.heap.size + 1) (w3.heap.size + 2) hB0 h0a h0b h0c (by have := HN.out; omega)
    have HEG : Aside _ := eg
    have HQ : Aside _ := hq
    clear hsp hF hR hE hmk h0a h0b h0c hB3 hb4 hq
    refine wpIn_rangeFunc_mine rfl (by have := HN.out; omega) (gf := 93) (lb := #[.pointer (some ⟨w3.heap.size, 0, none⟩), .pointer (some ⟨w3.heap.size + 1, 0, none⟩), .pointer (some ⟨w3.heap.size + 2, 0, none⟩)]) rfl trivial (enters_of Tryz.func93 (by kernel_rfl) rfl) hseq
      (fun h k => h.trans k) (fun W o o' ho hc _ => Kept.putObj o' (by omega) ho hc) (Below.refl _ _) (fun _ => rfl)
      (fun pre W => ((∀ x ∈ pre, q (SX.d x) = false) ∧ W.heap[w.heap.size + 1]? = some (Obj.cells #[.func (.func g) #[] lb] 104 (0, 0)) ∧ W.heap[w.heap.size + 1 + 1]? = some (Obj.cells #[.int .u64 0, .int .u64 0, .int .u64 0] 33 (0, 0)) ∧ W.heap[w.heap.size + 1 + 1 + 1]? = some (Obj.cells #[.int .i64 0] 34 (0, 0))) ∧ Below w.heap.size w W)
      (fun c pre W => (c = .ret ∧ ∃ pre' x, pre = pre' ++ [x] ∧ (∀ y ∈ pre', q (SX.d y) = false) ∧ q (SX.d x) = true ∧ W.heap[w.heap.size + 1 + 1]? = some (Obj.cells #[.int .u64 x.1.offset, .int .u64 x.1.ledger, .int .u64 x.1.n] 33 (0, 0)) ∧ W.heap[w.heap.size + 1 + 1 + 1]? = some (Obj.cells #[.int .i64 0] 34 (0, 0))) ∧ Below w.heap.size w W)
      (fun s A B row hs hg hr => ⟨⟨hs.1.1, box_own hs.1.2.1 hg hr, box_own hs.1.2.2.1 hg hr, box_own hs.1.2.2.2 hg hr⟩, (ownFrom_below (Nat.le_refl _) (by omega)) s A B row hs.2 hg hr⟩)
      (fun c s A B row hs hg hr => by obtain ⟨⟨h1, pre', x, h2, h3, h4, h5, h6⟩, h7⟩ := hs; exact ⟨⟨h1, pre', x, h2, h3, h4, box_own h5 hg hr, box_own h6 hg hr⟩, (ownFrom_below (Nat.le_refl _) (by omega)) s A B row h7 hg hr⟩)
      ⟨⟨(fun _ h => by cases h), hF0, hR0, hE0⟩, hB0⟩
      (fun x a' W => ∃ Bx, W.heap[Bx]? = some (Obj.cells #[.int .u64 x.1.offset, .int .u64 x.1.ledger, .int .u64 x.1.n] 33 (0, 0)) ∧ a' = { tmps := #[.agg #[.int .u64 pv, .int .u64 pn, .slice ca cs.length cc, .slice la ls.length lc, .slice pa ps.length pc], .int .i64 ch, .int .u64 sure, .func (.func g) #[] lb, .pointer (some ⟨w.heap.size, 0, none⟩), undef, undef, .pointer (some ⟨w.heap.size + 1, 0, none⟩), .pointer (some ⟨w.heap.size + 1 + 1, 0, none⟩), .pointer (some ⟨w.heap.size + 1 + 1 + 1, 0, none⟩), .pointer (some ⟨Bx, 0, none⟩), .agg #[.int .u64 pv, .int .u64 pn, .slice ca cs.length cc, .slice la ls.length lc, .slice pa ps.length pc], .int .i64 ch, .bool true, .bool false, undef, .agg #[.int .u64 pv, .int .u64 pn, .slice ca cs.length cc, .slice la ls.length lc, .slice pa ps.length pc], .int .i64 ch, .int .u64 sure, .func (.func 93) #[] #[.pointer (some ⟨w3.heap.size, 0, none⟩), .pointer (some ⟨w3.heap.size + 1, 0, none⟩), .pointer (some ⟨w3.heap.size + 2, 0, none⟩)], x.1.v, undef, undef, undef, undef, undef], defers := [] })
      (fun x a' _ A B row hs hg hr => by obtain ⟨Bx, h1, h2⟩ := hs; exact ⟨Bx, box_own h1 hg hr, h2⟩)
      ?assign ?body ?done ?stop
    case assign =>
      rintro l' pre x Wc K ⟨⟨h1, h2, h3, h4⟩, hB⟩ hK
      have hsc := hB.size
      dsimp only [SX.encs]
      gi_wp2
      exact hK _ _ ((KeepsOthers.alloc _ _).from _) (Kept.of_below (b1 _ _) (by omega)) ⟨⟨h1, box_mono h2 (b1 _ _), box_mono h3 (b1 _ _), box_mono h4 (b1 _ _)⟩, balloc hB _⟩ ⟨Wc.heap.size, heap_top _ _ _ rfl, rfl⟩
    case body =>
      rintro l' pre x a' Wc hl ⟨r, hr⟩ ⟨⟨h1, h2, h3, h4⟩, hB⟩ ⟨Bx, hbx, rfl⟩ hlen
      obtain ⟨d0, d1, d2, f0, f1, f2⟩ := cells3 hbx
      obtain ⟨g0, g1⟩ := cells1 h2
      have eg := HEG.out
      have hlx := box_lt hbx
      have hly := box_lt h4
      gi_wp2_with fail
      refine ⟨trivial, fun h => (by cases h), (CallsIn.inRound l' (callsIn_wide.2 (HQ.out Wc x.1 hB))).mono ?_⟩
      rintro e w5 ⟨rfl, hb5⟩
      have hbx5 := box_mono hbx hb5
      have hF5 := box_mono h2 hb5
      have hR5 := box_mono h3 hb5
      have hE5 := box_mono h4 hb5
      obtain ⟨d0, d1, d2, f0, f1, f2⟩ := cells3 hbx5
      obtain ⟨t0, t1, t2, u0, u1, u2⟩ := cells3 hR5
      obtain ⟨v0, v1⟩ := cells1 hE5
      have hz5 := box_lt hE5
      have hz6 := box_lt hbx5
      have HB5 : Aside _ := hb5
      have H1 : Aside _ := h1
      have HB : Aside _ := hB
      have HF5 : Aside _ := hF5
      have HR5 : Aside _ := hR5
      have HE5 : Aside _ := hE5
      have hdx : q (SX.d x) = q x.1 := rfl
      clear hb5 h1 hB hF5 hR5 hE5 h2 h3 h4 hbx5 hbx
      cases hqx : q x.1 with
      | false =>
        dsimp only
        gi_wp2
        refine ⟨keepsFrom_below HB5.out, Kept.of_below HB5.out (by have := HB.out.size; omega), ⟨fun y hy => ?_, HF5.out, HR5.out, HE5.out⟩, bthen HB.out HB5.out⟩
        rcases List.mem_append.1 hy with h | h
        · exact H1.out y h
        · obtain rfl : y = x := by simpa using h
          exact hdx.trans hqx
      | true =>
        dsimp only
        gi_wp2
        have hst := stored4 (W := w5) (x := .int .u64 x.1.offset) (y := .int .u64 x.1.ledger) (z := .int .u64 x.1.n) (u := .int .i64 0) (show w.heap.size + 1 + 1 ≠ w.heap.size + 1 + 1 + 1 by omega) HR5.out HE5.out
        refine ⟨?_, ⟨rfl, pre, x, rfl, H1.out, hdx.trans hqx, hst.1, hst.2⟩, Far.below (lo := w.heap.size + 1 + 1) (hi := w.heap.size + 1 + 1 + 1 + 1) (by repeat (first | (with_reducible refine far_set ?_ ⟨by simp; try omega, by simp; try omega⟩) | (with_reducible exact far_refl _ _ _))) (bthen HB.out HB5.out) (by omega)⟩
        exact (keepsFrom_below HB5.out).trans ((((KeepsOthers.setCell _ _ _).trans (KeepsOthers.setCell _ _ _)).trans (KeepsOthers.setCell _ _ _)).trans (KeepsOthers.setCell _ _ _) |>.from _)
    case done =>
      rintro D xs W' hD hS ⟨⟨h1, h2, h3, h4⟩, hB⟩ hDd
      have hrr : rr = (⟨0, 0, 0⟩, 4) := by rw [E0.out, find_none_of hS h1]
      subst hrr
      obtain ⟨t0, t1, t2, u0, u1, u2⟩ := cells3 h3
      obtain ⟨v0, v1⟩ := cells1 h4
      have hz := box_lt hDd
      have hzE := box_lt h4
      have H3 : Aside _ := h3
      have H4 : Aside _ := h4
      have HB : Aside _ := hB
      have HD : Aside _ := hDd
      clear h2 h3 h4 hB hDd
      gi_wp2
      have hst := stored4 (W := W') (x := .int .u64 0) (y := .int .u64 0) (z := .int .u64 0) (u := .int .i64 4) (show w.heap.size + 1 + 1 ≠ w.heap.size + 1 + 1 + 1 by omega) H3.out H4.out
      have hkd := ((((KeepsOthers.setCell W' ⟨w.heap.size + 1 + 1, 0, none⟩ (.int .u64 0)).trans (KeepsOthers.setCell _ ⟨w.heap.size + 1 + 1, 1, none⟩ (.int .u64 0))).trans (KeepsOthers.setCell _ ⟨w.heap.size + 1 + 1, 2, none⟩ (.int .u64 0))).trans (KeepsOthers.setCell _ ⟨w.heap.size + 1 + 1 + 1, 0, none⟩ (.int .i64 4))).same D _ HD.out rfl
      refine ⟨by simp, .inl ⟨_, _, rfl, run_takeDeferred hkd, ?_⟩⟩
      have k1 := cells3 ((World.putObj_heap_other (o := .deferred none) (show w.heap.size + 1 + 1 ≠ D by omega)).trans hst.1)
      have k2 := cells1 ((World.putObj_heap_other (o := .deferred none) (show w.heap.size + 1 + 1 + 1 ≠ D by omega)).trans hst.2)
      refine ⟨.tuple #[Spot.v ⟨0, 0, 0⟩, .int .i64 4], (by simp [results, Tryz.results63, go_sem, k1.1, k1.2.1, k1.2.2.1, k2.1]), rfl, ?_⟩
      refine Below.trans ?_ (belowK_b (w := w) (Nat.le_refl _) _ D _ _ (by omega) hkd rfl rfl)
      exact Far.below (lo := w.heap.size + 1 + 1) (hi := w.heap.size + 1 + 1 + 1 + 1) (by repeat (first | (with_reducible refine far_set ?_ ⟨by simp; try omega, by simp; try omega⟩) | (with_reducible exact far_refl _ _ _))) HB.out (by omega)
    case stop =>
      rintro D c pre W' hD hSp ⟨⟨rfl, pre', x, rfl, h3, h4, h5, h6⟩, hB⟩ hDd
      have hrr : rr = (SX.d x, 0) := by rw [E0.out, find_some_of hSp h3 h4]
      subst hrr
      have HD : Aside _ := hDd
      have hz := box_lt hDd
      have hzE := box_lt h6
      clear hDd
      gi_wp2
      refine ⟨by simp, .inl ⟨_, _, rfl, run_takeDeferred HD.out, ?_⟩⟩
      have k1 := cells3 ((World.putObj_heap_other (w := W') (o := .deferred none) (show w.heap.size + 1 + 1 ≠ D by omega)).trans h5)
      have k2 := cells1 ((World.putObj_heap_other (w := W') (o := .deferred none) (show w.heap.size + 1 + 1 + 1 ≠ D by omega)).trans h6)
      refine ⟨.tuple #[Spot.v x.1, .int .i64 0], (by simp [results, Tryz.results63, go_sem, k1.1, k1.2.1, k1.2.2.1, k2.1]), rfl, ?_⟩
      exact hB.trans (belowK_b (w := w) (Nat.le_refl _) _ D _ _ (by omega) HD.out rfl rfl)
end Go.Proofs.YtdiamknibfamdaaGreat
/- chain.Find, chain.Offset. -/
namespace Go.Proofs.YtdiamknibfamdaaGreat
open Go.RowKit Go.Shelf

theorem enters64 : ∀ args w, (callFunc 64 args).run Tryz.prog w = .ok (.enter 64 args) w := enters_of Tryz.func64 (by kernel_rfl) rfl
theorem enters66 : ∀ args w, (callFunc 66 args).run Tryz.prog w = .ok (.enter 66 args) w := enters_of Tryz.func66 (by kernel_rfl) rfl
theorem closure64 (x : Spot) (B : Nat) (o : Int) (W : World) (hB : B < W.heap.size) (hc : W.cell? ⟨B, 0, none⟩ = some (.int .u64 o)) : Calls Tryz.prog 64 #[x.v, .pointer (some ⟨B, 0, none⟩)] W fun e w' => e = .returned (.bool (decide (x.offset = o))) ∧ Below W.heap.size W w' := by
  have hne : B ≠ W.heap.size := by omega
  have hq : (x.offset == o) = decide (x.offset = o) := by rw [Bool.eq_iff_iff]; simp
  go_enter Tryz.func64, Tryz.ntmps64
  go_wp2
  go_ret
  exact ⟨rfl, b1 _ _⟩
theorem closure66 (x : Spot) (B B' : Nat) (l n : Int) (W : World) (hB : B < W.heap.size) (hB' : B' < W.heap.size) (hc : W.cell? ⟨B, 0, none⟩ = some (.int .u64 l)) (hc' : W.cell? ⟨B', 0, none⟩ = some (.int .u64 n)) :
    Calls Tryz.prog 66 #[x.v, .pointer (some ⟨B, 0, none⟩), .pointer (some ⟨B', 0, none⟩)] W fun e w' => e = .returned (.bool (decide (x.ledger = l) && decide (x.n = n))) ∧ Below W.heap.size W w' := by
  have hne : B ≠ W.heap.size := by omega
  have hne' : B' ≠ W.heap.size := by omega
  have e1 : (x.ledger == l) = decide (x.ledger = l) := by rw [Bool.eq_iff_iff]; simp
  have e2 : (x.n == n) = decide (x.n = n) := by rw [Bool.eq_iff_iff]; simp
  go_enter Tryz.func66, Tryz.ntmps66
  go_wp2
  all_goals
    go_ret
    exact ⟨by simp_all, b1 _ _⟩

set_option maxHeartbeats 2000000 in
set_option maxRecDepth 100000 in
theorem find17 (p : PlanR) (ch sure o : Int) (w : World) (hp : p.Ok w) (hb : PlanSmall p) (hs : U64 sure) :
    Calls Tryz.prog 17 #[p.v, .int .i64 ch, .int .u64 sure, .int .u64 o] w fun e w' => e = .returned (.tuple #[(oneB p.d ch sure fun x => decide (x.offset = o)).1.v, .int .i64 (oneB p.d ch sure fun x => decide (x.offset = o)).2]) ∧ Below w.heap.size w w' := by
  have hone := fun W (hW : Below w.heap.size w W) (hc : W.cell? ⟨w.heap.size + 1, 0, none⟩ = some (.int .u64 o)) (hlt : w.heap.size + 1 < W.heap.size) =>
    callsIn_wide.1 (one63 5 (by decide) p ch sure (fun x => decide (x.offset = o)) 64 #[.pointer (some ⟨w.heap.size + 1, 0, none⟩)] enters64 W (hp.mono hW) hb hs (fun W' x hb' => closure64 x (w.heap.size + 1) o W' (blt hb' hlt) ((hb'.cell (p := ⟨w.heap.size + 1, 0, none⟩) hlt).trans hc)))
  generalize oneB p.d ch sure (fun x => decide (x.offset = o)) = r at hone ⊢
  obtain ⟨⟨r1, r2, r3⟩, rc⟩ := r
  clear hp hb hs
  obtain ⟨pv, pn, ⟨ca, cc, cs⟩, ⟨la, lc, ls⟩, ⟨pa, pc, ps⟩⟩ := p
  dsimp only at *
  go_enter Tryz.func17, Tryz.ntmps17
  go_wp2_with fail
  refine (hone _ (balloc (balloc (b1 _ _) _) _) (cells1 (heap3_1 w _ _ _)).1 (by simp)).mono ?_
  rintro e w1 ⟨rfl, hb'⟩
  obtain ⟨d0, d1, d2, f0, f1, f2⟩ := cells3 (box_mono (heap3_2 w _ _ _) hb')
  have hz := box_lt (box_mono (heap3_2 w _ _ _) hb')
  have HB : Aside _ := hb'
  clear hb' hone
  dsimp only
  go_wp2
  refine bodyPost_ret (v := .tuple #[Spot.v ⟨r1, r2, r3⟩, .int .i64 rc]) (by simp [results, Tryz.results17, go_sem, d0, d1, d2]) rfl ⟨rfl, ?_⟩
  exact Far.below (lo := w.heap.size + 1 + 1) (hi := w.heap.size + 1 + 1 + 1) (by repeat (first | (with_reducible refine far_set ?_ ⟨by simp, by simp⟩) | (with_reducible exact far_refl _ _ _))) (bthen (balloc (balloc (b1 w _) _) _) HB.out) (by omega)

set_option maxHeartbeats 2000000 in
set_option maxRecDepth 100000 in
theorem offset19 (p : PlanR) (ch sure l n : Int) (w : World) (hp : p.Ok w) (hb : PlanSmall p) (hs : U64 sure) :
    Calls Tryz.prog 19 #[p.v, .int .i64 ch, .int .u64 sure, .int .u64 l, .int .u64 n] w fun e w' => e = .returned (.tuple #[.int .u64 (oneB p.d ch sure fun x => decide (x.ledger = l) && decide (x.n = n)).1.offset, .int .i64 (oneB p.d ch sure fun x => decide (x.ledger = l) && decide (x.n = n)).2]) ∧ Below w.heap.size w w' := by
  have hone := fun W (hW : Below w.heap.size w W) (hc : W.cell? ⟨w.heap.size + 1, 0, none⟩ = some (.int .u64 l)) (hc' : W.cell? ⟨w.heap.size + 1 + 1, 0, none⟩ = some (.int .u64 n)) (hlt : w.heap.size + 1 + 1 < W.heap.size) =>
    callsIn_wide.1 (one63 5 (by decide) p ch sure (fun x => decide (x.ledger = l) && decide (x.n = n)) 66 #[.pointer (some ⟨w.heap.size + 1, 0, none⟩), .pointer (some ⟨w.heap.size + 1 + 1, 0, none⟩)] enters66 W (hp.mono hW) hb hs (fun W' x hb' =>
      closure66 x (w.heap.size + 1) (w.heap.size + 1 + 1) l n W' (blt hb' (by omega)) (blt hb' hlt) ((hb'.cell (p := ⟨w.heap.size + 1, 0, none⟩) (by dsimp only; omega)).trans hc) ((hb'.cell (p := ⟨w.heap.size + 1 + 1, 0, none⟩) hlt).trans hc')))
  generalize oneB p.d ch sure (fun x => decide (x.ledger = l) && decide (x.n = n)) = r at hone ⊢
  obtain ⟨⟨r1, r2, r3⟩, rc⟩ := r
  clear hp hb hs
  obtain ⟨pv, pn, ⟨ca, cc, cs⟩, ⟨la, lc, ls⟩, ⟨pa, pc, ps⟩⟩ := p
  dsimp only at *
  go_enter Tryz.func19, Tryz.ntmps19
  go_wp2_with fail
  refine (hone _ (balloc (balloc (b1 _ _) _) _) (cells1 (heap3_1 w _ _ _)).1 (cells1 (heap3_2 w _ _ _)).1 (by simp)).mono ?_
  rintro e w1 ⟨rfl, hb'⟩
  have HB : Aside _ := hb'
  clear hb' hone
  dsimp only
  go_wp2
  refine bodyPost_ret (v := .tuple #[.int .u64 r1, .int .i64 rc]) (by simp [results, Tryz.results19, go_sem]) rfl ⟨rfl, ?_⟩
  exact balloc (bthen (balloc (balloc (b1 w _) _) _) HB.out) _
end Go.Proofs.YtdiamknibfamdaaGreat
/- The chain's plain laws: each spot's offset, and by what a spot is known. -/
namespace Go.Proofs.YtdiamknibfamdaaGreat

/-- The spots of ledgers from an offset on. -/
def spotsL (ls : List Ledger) (sure e : Int) (ids : List Int) : List Spot := (seqL ls e ids).flatMap (spotsAt sure)
/-- Ledgers that may stand in a plan. -/
def LedsOk (ls : List Ledger) : Prop := ∀ l ∈ ls, (l.closed = 0 ∨ l.closed = 1) ∧ 0 ≤ l.last ∧ l.last ≤ 8 * l.closed

theorem findL_id {ls : List Ledger} {id : Int} {l : Ledger} (h : findL ls id = some l) : l ∈ ls ∧ l.id = id :=
  ⟨List.mem_of_find?_eq_some h, by have := List.find?_some h; simpa using this⟩
theorem ids_head {ls : List Ledger} {id : Int} {t : List Int} (h : idsOkB ls (id :: t) = true) : ∃ l, findL ls id = some l ∧ (t = [] ∨ l.closed ≠ 0) ∧ idsOkB ls t = true := by
  unfold idsOkB at h
  rw [Bool.and_eq_true] at h
  obtain ⟨h1, h2⟩ := h
  cases hf : findL ls id with
  | none => rw [hf] at h1; cases h1
  | some l =>
    rw [hf] at h1
    refine ⟨l, rfl, ?_, h2⟩
    cases t with
    | nil => exact .inl rfl
    | cons a t => exact .inr fun h0 => by simp [h0] at h1
theorem spotsL_cons {ls : List Ledger} (sure e : Int) {id : Int} (t : List Int) {l : Ledger} (hf : findL ls id = some l) : spotsL ls sure e (id :: t) = spotsAt sure (e, l) ++ spotsL ls sure (addU e l.last) t := by
  unfold spotsL
  rw [seqL, List.flatMap_cons, lastOf, hf]
  rfl
theorem spotsAt_len (sure e : Int) (l : Ledger) : (spotsAt sure (e, l)).length = (cntOf sure l.closed l.last).toNat := by simp [spotsAt]
theorem spotsAt_get {sure e : Int} {l : Ledger} {i : Nat} {s : Spot} (h : (spotsAt sure (e, l))[i]? = some s) : i < (cntOf sure l.closed l.last).toNat ∧ s = ⟨addU e i, l.id, addU i 1⟩ := by
  have hi := (List.getElem?_eq_some_iff.1 h).1
  rw [spotsAt_len] at hi
  refine ⟨hi, ?_⟩
  simp only [spotsAt] at h
  rw [List.getElem?_map, List.getElem?_range hi] at h
  simpa using h.symm
theorem addU_small {a b : Int} (h0 : 0 ≤ a + b) (h1 : a + b < 18446744073709551616) : addU a b = a + b := Int.emod_eq_of_lt h0 h1
theorem cnt_le {ls : List Ledger} (hl : LedsOk ls) {l : Ledger} (h : l ∈ ls) (sure : Int) : cntOf sure l.closed l.last ≤ 8 := by
  obtain ⟨h1, h2, h3⟩ := hl l h
  unfold cntOf
  split <;> omega
theorem cnt_closed {l : Ledger} (sure : Int) (h : l.closed ≠ 0) : cntOf sure l.closed l.last = l.last := if_neg h
/-- An element of two rows, one behind the other. -/
theorem get_append {α : Type} {a b : List α} {i : Nat} {s : α} (h : (a ++ b)[i]? = some s) : a[i]? = some s ∨ ∃ k, i = a.length + k ∧ b[k]? = some s := by
  rw [List.getElem?_append] at h
  split at h
  · exact .inl h
  · exact .inr ⟨i - a.length, by omega, h⟩

theorem spotsL_at {ls : List Ledger} {sure : Int} (hl : LedsOk ls) : ∀ (ids : List Int) (e : Int), 0 ≤ e → e + 8 * ids.length < 18446744073709551616 → idsOkB ls ids = true →
    ∀ (i : Nat) (s : Spot), (spotsL ls sure e ids)[i]? = some s → s.offset = e + i ∧ s.ledger ∈ ids
  | [], _, _, _, _, _, _, h => by simp [spotsL, seqL] at h
  | id :: t, e, h0, h1, hk, i, s, h => by
    obtain ⟨l, hf, hc, hk'⟩ := ids_head hk
    obtain ⟨hm, hid⟩ := findL_id hf
    obtain ⟨hcl, hla, hlb⟩ := hl l hm
    have hle := cnt_le hl hm sure
    rw [spotsL_cons sure e t hf] at h
    simp only [List.length_cons] at h1
    rcases get_append h with h2 | ⟨k, rfl, h2⟩
    · obtain ⟨h3, rfl⟩ := spotsAt_get h2
      exact ⟨addU_small (by omega) (by omega), by rw [hid]; exact List.mem_cons_self⟩
    · rcases hc with rfl | hc
      · simp [spotsL, seqL] at h2
      · have hcn := cnt_closed sure hc
        have ha : addU e l.last = e + l.last := addU_small (by omega) (by omega)
        rw [ha] at h2
        obtain ⟨h3, h4⟩ := spotsL_at hl t (e + l.last) (by omega) (by omega) hk' k s h2
        refine ⟨?_, List.mem_cons_of_mem _ h4⟩
        rw [h3, spotsAt_len, hcn]
        omega
/-- A ledger's spots have unlike numbers, from 1 on; other ledgers have other spots. -/
theorem spotsL_known {ls : List Ledger} {sure : Int} (hl : LedsOk ls) : ∀ (ids : List Int) (e : Int), 0 ≤ e → e + 8 * ids.length < 18446744073709551616 → idsOkB ls ids = true → ids.Nodup →
    ∀ (i j : Nat) (s t : Spot), (spotsL ls sure e ids)[i]? = some s → (spotsL ls sure e ids)[j]? = some t → s.ledger = t.ledger → s.n = t.n → i = j
  | [], _, _, _, _, _, _, _, _, _, h, _ => by simp [spotsL, seqL] at h
  | id :: r, e, h0, h1, hk, hn, i, j, s, t, hi, hj => by
    obtain ⟨l, hf, hc, hk'⟩ := ids_head hk
    obtain ⟨hm, hid⟩ := findL_id hf
    obtain ⟨hcl, hla, hlb⟩ := hl l hm
    have hle := cnt_le hl hm sure
    obtain ⟨hn1, hn2⟩ := List.nodup_cons.1 hn
    rw [spotsL_cons sure e r hf] at hi hj
    simp only [List.length_cons] at h1
    have ha : addU e l.last = e + l.last := addU_small (by omega) (by omega)
    rw [ha] at hi hj
    intro hlg hnn
    rcases get_append hi with h2 | ⟨k, rfl, h2⟩ <;> rcases get_append hj with h3 | ⟨m, rfl, h3⟩
    · obtain ⟨h4, rfl⟩ := spotsAt_get h2
      obtain ⟨h5, rfl⟩ := spotsAt_get h3
      have e1 : addU (i : Int) 1 = (i : Int) + 1 := addU_small (by omega) (by omega)
      have e2 : addU (j : Int) 1 = (j : Int) + 1 := addU_small (by omega) (by omega)
      dsimp only at hnn
      omega
    · obtain ⟨h4, rfl⟩ := spotsAt_get h2
      have := (spotsL_at hl r (e + l.last) (by omega) (by omega) hk' m t h3).2
      dsimp only at hlg
      rw [← hlg, hid] at this
      exact absurd this hn1
    · obtain ⟨h4, rfl⟩ := spotsAt_get h3
      have := (spotsL_at hl r (e + l.last) (by omega) (by omega) hk' k s h2).2
      dsimp only at hlg
      rw [hlg, hid] at this
      exact absurd this hn1
    · rw [spotsL_known hl r (e + l.last) (by omega) (by omega) hk' hn2 k m s t h2 h3 hlg hnn]
/-- Who is sure of more has what he has who is sure of less. -/
theorem spotsL_more {ls : List Ledger} {sure more : Int} (h : sure ≤ more) : ∀ (ids : List Int) (e : Int), idsOkB ls ids = true → spotsL ls sure e ids <+: spotsL ls more e ids
  | [], _, _ => List.prefix_refl _
  | id :: t, e, hk => by
    obtain ⟨l, hf, hc, hk'⟩ := ids_head hk
    rw [spotsL_cons sure e t hf, spotsL_cons more e t hf]
    by_cases hc0 : l.closed = 0
    · rcases hc with rfl | hc
      · have e1 : ∀ x y, spotsL ls x y [] = [] := fun _ _ => rfl
        rw [e1, e1, List.append_nil, List.append_nil]
        unfold spotsAt cntOf
        rw [if_pos hc0, if_pos hc0]
        refine List.IsPrefix.map _ ?_
        refine ⟨(List.range ((min more 8).toNat - (min sure 8).toNat)).map (· + (min sure 8).toNat), ?_⟩
        have e2 : (min more 8).toNat = (min sure 8).toNat + ((min more 8).toNat - (min sure 8).toNat) := by omega
        conv => rhs; rw [e2, List.range_add]
        congr 1
        exact List.map_congr_left fun a _ => Nat.add_comm _ _
      · exact absurd hc0 hc
    · have e1 : spotsAt sure (e, l) = spotsAt more (e, l) := by unfold spotsAt; rw [cnt_closed sure hc0, cnt_closed more hc0]
      rw [e1]
      exact (List.prefix_append_right_inj _).2 (spotsL_more h t _ hk')
/-- What stands behind a spot. -/
def Behind (s t : Spot) : Prop := (s.ledger = t.ledger → t.n = s.n + 1) ∧ (s.ledger ≠ t.ledger → t.n = 1)
theorem spotsL_row {ls : List Ledger} {sure : Int} (hl : LedsOk ls) : ∀ (ids : List Int) (e : Int), 0 ≤ e → e + 8 * ids.length < 18446744073709551616 → idsOkB ls ids = true → ids.Nodup →
    (∀ s, (spotsL ls sure e ids)[0]? = some s → s.n = 1) ∧ ∀ (i : Nat) (s t : Spot), (spotsL ls sure e ids)[i]? = some s → (spotsL ls sure e ids)[i + 1]? = some t → Behind s t
  | [], _, _, _, _, _ => ⟨fun _ h => by simp [spotsL, seqL] at h, fun _ _ _ h => by simp [spotsL, seqL] at h⟩
  | id :: r, e, h0, h1, hk, hn => by
    obtain ⟨l, hf, hc, hk'⟩ := ids_head hk
    obtain ⟨hm, hid⟩ := findL_id hf
    obtain ⟨hcl, hla, hlb⟩ := hl l hm
    have hle := cnt_le hl hm sure
    obtain ⟨hn1, hn2⟩ := List.nodup_cons.1 hn
    rw [spotsL_cons sure e r hf]
    simp only [List.length_cons] at h1
    have ha : addU e l.last = e + l.last := addU_small (by omega) (by omega)
    rw [ha]
    obtain ⟨ih1, ih2⟩ := spotsL_row (sure := sure) hl r (e + l.last) (by omega) (by omega) hk' hn2
    refine ⟨fun s hs => ?_, fun i s t hi hj => ?_⟩
    · rcases get_append hs with h2 | ⟨k, hk0, h2⟩
      · obtain ⟨h4, rfl⟩ := spotsAt_get h2
        rfl
      · obtain rfl : k = 0 := by omega
        exact ih1 s h2
    · rcases get_append hi with h2 | ⟨k, rfl, h2⟩ <;> rcases get_append hj with h3 | ⟨m, hm', h3⟩
      · obtain ⟨h4, rfl⟩ := spotsAt_get h2
        obtain ⟨h5, rfl⟩ := spotsAt_get h3
        have e1 : addU (i : Int) 1 = (i : Int) + 1 := addU_small (by omega) (by omega)
        have e2 : addU ((i + 1 : Nat) : Int) 1 = ((i + 1 : Nat) : Int) + 1 := addU_small (by omega) (by omega)
        exact ⟨fun _ => by dsimp only; omega, fun h => absurd rfl h⟩
      · obtain ⟨h4, rfl⟩ := spotsAt_get h2
        rw [spotsAt_len] at hm'
        obtain rfl : m = 0 := by omega
        have hx := (spotsL_at hl r (e + l.last) (by omega) (by omega) hk' 0 t h3).2
        refine ⟨fun h => ?_, fun _ => ih1 t h3⟩
        dsimp only at h
        rw [← h, hid] at hx
        exact absurd hx hn1
      · have := (List.getElem?_eq_some_iff.1 h3).1
        omega
      · obtain rfl : m = k + 1 := by omega
        exact ih2 k s t h2 h3
theorem find_only {α : Type} {q : α → Bool} : ∀ {l : List α} {i : Nat} {s : α}, l[i]? = some s → q s = true → (∀ (j : Nat) (t : α), l[j]? = some t → q t = true → j = i) → l.find? q = some s
  | [], _, _, h, _, _ => by simp at h
  | x :: l, 0, s, h, hq, _ => by
    obtain rfl : x = s := by simpa using h
    exact List.find?_cons_of_pos hq
  | x :: l, i + 1, s, h, hq, ho => by
    rw [List.find?_cons_of_neg (fun hx => by have := ho 0 x rfl hx; omega)]
    exact find_only (l := l) (i := i) (by simpa using h) hq (fun j t hj ht => by have := ho (j + 1) t (by simpa using hj) ht; omega)

/-- The numbers of a plan that lies in memory. -/
structure PlanNums (p : Plan) : Prop where
  first : ∀ c ∈ p.channels, 0 ≤ c.first
  last : ∀ l ∈ p.ledgers, 0 ≤ l.last
theorem nums_of {p : PlanR} {w : World} (hp : p.Ok w) : PlanNums p.d :=
  ⟨fun c hc => by obtain ⟨x, hx, rfl⟩ := List.mem_map.1 hc; exact (hp.channels.ok x hx).first.1, fun l hl => by obtain ⟨x, hx, rfl⟩ := List.mem_map.1 hl; exact (hp.ledgers.ok x hx).2.2.2.2.2.1⟩
theorem leds_of {p : Plan} (hn : PlanNums p) (h : mayB p = true) : LedsOk p.ledgers := fun l hl => by
  have h1 := led_last (may_led h hl).1
  have h2 := hn.last l hl
  omega
/-- A channel that is there, in a plan that may be. -/
structure ChanOk (ls : List Ledger) (c : Channel) : Prop where
  first : 0 ≤ c.first ∧ c.first ≤ 4611686018427387903
  eight : c.ledgers.length ≤ 8
  ids : idsOkB ls c.ledgers = true
  nodup : c.ledgers.Nodup
theorem rise_lt : ∀ (l : List Int), riseB l = true → l.Pairwise (fun x y => x < y)
  | [], _ => List.Pairwise.nil
  | [a], _ => List.pairwise_singleton _ _
  | a :: b :: t, h => by
    simp only [riseB, Bool.and_eq_true, decide_eq_true_eq] at h
    have ih := rise_lt (b :: t) h.2
    refine List.pairwise_cons.2 ⟨fun x hx => ?_, ih⟩
    rcases List.mem_cons.1 hx with rfl | hx
    · exact h.1
    · have := (List.pairwise_cons.1 ih).1 x hx
      omega
theorem rise_nodup {l : List Int} (h : riseB l = true) : l.Nodup := (rise_lt l h).imp fun h => by omega
theorem chan_ok {p : Plan} (hn : PlanNums p) (h : mayB p = true) {c : Channel} (hc : c ∈ p.channels) : ChanOk p.ledgers c := by
  have h1 := may_chan h hc
  unfold channelB at h1
  simp only [Bool.and_eq_true, decide_eq_true_eq] at h1
  obtain ⟨⟨⟨⟨⟨⟨⟨⟨⟨⟨h1, _⟩, h2⟩, h3⟩, _⟩, _⟩, h4⟩, _⟩, _⟩, _⟩, _⟩ := h1
  simp only [countsB, List.all_cons, Bool.and_eq_true, decide_eq_true_eq] at h1
  exact ⟨⟨hn.first c hc, h1.2.2.1⟩, h2, h4, rise_nodup h3⟩
theorem chan_mem {p : Plan} {ch : Int} (h : chainHasB p ch = true) : mayB p = true ∧ chanOf p ch ∈ p.channels := by
  obtain ⟨hh1, hmay⟩ : hasB p.channels.length ch = true ∧ mayB p = true := by simpa [chainHasB] using h
  refine ⟨hmay, ?_⟩
  simp only [hasB, fromB, Bool.and_eq_true, decide_eq_true_eq] at hh1
  have hlt : (ch - 1).toNat < p.channels.length := by omega
  unfold chanOf
  rw [List.getD_eq_getElem?_getD, List.getElem?_eq_getElem hlt]
  exact List.getElem_mem hlt
theorem spots_eq {p : Plan} {ch : Int} (sure : Int) (h : chainHasB p ch = true) : spotsB p ch sure = spotsL p.ledgers sure (chanOf p ch).first (chanOf p ch).ledgers := by
  unfold spotsB
  rw [if_pos h]
  rfl
theorem spots_none {p : Plan} {ch : Int} (sure : Int) (h : chainHasB p ch = false) : spotsB p ch sure = [] := by
  unfold spotsB
  rw [h]
  rfl

/-- Each spot is found by its offset, and has it. -/
theorem spots_back {p : Plan} (hn : PlanNums p) {ch : Int} (sure : Int) (h : chainHasB p ch = true) {i : Nat} {s : Spot} (hi : (spotsB p ch sure)[i]? = some s) :
    s.offset = addU (chanOf p ch).first i ∧ oneB p ch sure (fun x => decide (x.offset = addU (chanOf p ch).first i)) = (s, 0) ∧ oneB p ch sure (fun x => decide (x.ledger = s.ledger) && decide (x.n = s.n)) = (s, 0) := by
  obtain ⟨hmay, hmem⟩ := chan_mem h
  have hl := leds_of hn hmay
  have hc := chan_ok hn hmay hmem
  have h8 := hc.eight
  have hf := hc.first
  rw [spots_eq sure h] at hi
  have hat := spotsL_at (sure := sure) hl _ _ hf.1 (by omega) hc.ids
  have hkn := spotsL_known (sure := sure) hl _ _ hf.1 (by omega) hc.ids hc.nodup
  have hoff : s.offset = addU (chanOf p ch).first i := by
    have h1 := (hat i s hi).1
    have h2 := addU_u64 (chanOf p ch).first i
    have hlen : ∀ (ids : List Int) (e : Int), idsOkB p.ledgers ids = true → (spotsL p.ledgers sure e ids).length ≤ 8 * ids.length := by
      intro ids
      induction ids with
      | nil => intro e _; exact Nat.zero_le _
      | cons id t ih =>
        intro e hk
        obtain ⟨l, hf, _, hk'⟩ := ids_head hk
        have := cnt_le hl (findL_id hf).1 sure
        have := ih (addU e l.last) hk'
        rw [spotsL_cons sure e t hf, List.length_append, spotsAt_len, List.length_cons]
        omega
    have h3 := hlen _ (chanOf p ch).first hc.ids
    have h4 := (List.getElem?_eq_some_iff.1 hi).1
    rw [h1, addU_small (by omega) (by omega)]
  refine ⟨hoff, ?_, ?_⟩
  · unfold oneB
    rw [if_pos h, spots_eq sure h, find_only hi (by simpa using hoff) ?_]
    intro j t hj ht
    have h1 := (hat i s hi).1
    have h2 := (hat j t hj).1
    simp only [decide_eq_true_eq] at ht
    omega
  · unfold oneB
    rw [if_pos h, spots_eq sure h, find_only hi (by simp) ?_]
    intro j t hj ht
    simp only [Bool.and_eq_true, decide_eq_true_eq] at ht
    exact hkn j i t s hj hi ht.1 ht.2
/-- Who is sure of more has all the spots of who is sure of less. -/
theorem spots_more {p : Plan} (hn : PlanNums p) (ch : Int) {sure more : Int} (hm : sure ≤ more) : spotsB p ch sure <+: spotsB p ch more := by
  cases h : chainHasB p ch with
  | false => rw [spots_none sure h, spots_none more h]; exact List.prefix_refl _
  | true =>
    obtain ⟨hmay, hmem⟩ := chan_mem h
    rw [spots_eq sure h, spots_eq more h]
    exact spotsL_more hm _ _ (chan_ok hn hmay hmem).ids
theorem spots_row {p : Plan} (hn : PlanNums p) (ch sure : Int) :
    (∀ s, (spotsB p ch sure)[0]? = some s → s.n = 1) ∧ ∀ (i : Nat) (s t : Spot), (spotsB p ch sure)[i]? = some s → (spotsB p ch sure)[i + 1]? = some t → t.offset = addU s.offset 1 ∧ Behind s t := by
  cases h : chainHasB p ch with
  | false =>
    rw [spots_none sure h]
    exact ⟨fun _ h => by simp at h, fun _ _ _ h => by simp at h⟩
  | true =>
    obtain ⟨hmay, hmem⟩ := chan_mem h
    have hl := leds_of hn hmay
    have hc := chan_ok hn hmay hmem
    have h8 := hc.eight
    have hf := hc.first
    obtain ⟨h1, h2⟩ := spotsL_row (sure := sure) hl _ _ hf.1 (by omega) hc.ids hc.nodup
    rw [← spots_eq sure h] at h1 h2
    refine ⟨h1, fun i s t hi ht => ⟨?_, h2 i s t hi ht⟩⟩
    have e1 := spots_back hn sure h hi
    have e2 := spots_back hn sure h ht
    rw [e1.1, e2.1]
    unfold addU
    omega
end Go.Proofs.YtdiamknibfamdaaGreat
