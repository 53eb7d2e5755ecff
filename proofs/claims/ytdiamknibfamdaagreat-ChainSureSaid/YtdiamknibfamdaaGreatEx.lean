/- The chapter's plan. -/
import Derived.Test.YtdiamknibfamdaaGreatLong
import Derived.Test.YtdiamknibfamdaaGreatPlC
namespace Go.Proofs.YtdiamknibfamdaaGreat
open Go.RowKit Go.Shelf

/-- A row of elements that was laid whole. -/
theorem lit_sl {α : Type} {E : El α} {w : World} {B : Nat} {t : TypeId} {fr : Nat × Nat} {xs : List α} (hB : w.heap[B]? = some (.cells (xs.flatMap E.enc).toArray t fr)) (h : ∀ x ∈ xs, E.ok w x) (hn : xs.length ≤ 9223372036854775807) : SlOk E w ⟨some ⟨B, 0, none⟩, xs.length, xs⟩ :=
  ⟨Nat.le_refl _, hn, (fun h => by cases h), fun _ => ⟨B, 0, rfl, (Array.getElem?_eq_some_iff.1 hB).1, fun j x hj i v hv => by
    have h1 := flat_at E xs j i x v hj hv
    rw [World.cell?, hB]
    simpa using h1⟩, h⟩

def closedL (id last is : Int) : Ledger := ⟨id, 1, 1, [⟨1, [⟨7, 1⟩]⟩], is, last⟩
/-- A ledger that was made: it reads so wherever the blocks that were laid for it lie as they lie. -/
def LedgerMake (d : Ledger) (w : World) (e : Ending) (w' : World) : Prop :=
  ∃ l : LedgerR, e = .returned l.v ∧ l.d = d ∧ (∀ W : World, (∀ i, w.heap.size ≤ i → i < w'.heap.size → W.heap[i]? = w'.heap[i]?) → l.Ok W) ∧ Below w.heap.size w w'

set_option maxRecDepth 100000 in
theorem closed91 (id last is : Int) (w : World) (h1 : U64 id) (h2 : U64 last) (h3 : I64 is) : Calls Tryz.prog 91 #[.int .u64 id, .int .u64 last, .int .i64 is] w (LedgerMake (closedL id last is) w) := by
  have H1 : Hid _ := h1
  have H2 : Hid _ := h2
  have H3 : Hid _ := h3
  clear h1 h2 h3
  go_enter Tryz.func91, Tryz.ntmps91
  go_wp2
  refine bodyPost_ret (v := LedgerR.v ⟨id, 1, 1, ⟨some ⟨w.heap.size + 1 + 1, 0, none⟩, 1, [⟨1, ⟨some ⟨w.heap.size + 1, 0, none⟩, 1, [⟨7, 1⟩]⟩⟩]⟩, is, last⟩) (by simp [results, Tryz.results91, go_sem]) rfl ?_
  obtain ⟨W, hW⟩ : ∃ W, ((w.alloc (.cells #[.int .u64 id, .int .i64 1, .int .i64 1, .slice (some ⟨w.heap.size + 1 + 1, 0, none⟩) 1 1, .int .i64 is, .int .u64 last] 68)).alloc (.cells #[.int .i64 7, .int .u64 1] 59)).alloc (.cells #[.int .u64 1, .slice (some ⟨w.heap.size + 1, 0, none⟩) 1 1] 113) = W := ⟨_, rfl⟩
  have k1 := heap3_1 w (.cells #[.int .u64 id, .int .i64 1, .int .i64 1, .slice (some ⟨w.heap.size + 1 + 1, 0, none⟩) 1 1, .int .i64 is, .int .u64 last] 68) (.cells #[.int .i64 7, .int .u64 1] 59) (.cells #[.int .u64 1, .slice (some ⟨w.heap.size + 1, 0, none⟩) 1 1] 113)
  have k2 := heap3_2 w (.cells #[.int .u64 id, .int .i64 1, .int .i64 1, .slice (some ⟨w.heap.size + 1 + 1, 0, none⟩) 1 1, .int .i64 is, .int .u64 last] 68) (.cells #[.int .i64 7, .int .u64 1] 59) (.cells #[.int .u64 1, .slice (some ⟨w.heap.size + 1, 0, none⟩) 1 1] 113)
  have hb : Below w.heap.size w W := by rw [← hW]; exact balloc (balloc (b1 w _) _) _
  rw [hW] at k1 k2 ⊢
  clear hW
  refine ⟨_, rfl, rfl, fun V hV => ?_, hb⟩
  have j1 := (hV _ (by omega) (Array.getElem?_eq_some_iff.1 k1).1).trans k1
  have j2 := (hV _ (by omega) (Array.getElem?_eq_some_iff.1 k2).1).trans k2
  have o1 : SlOk ePlace V ⟨some ⟨w.heap.size + 1, 0, none⟩, 1, [⟨7, 1⟩]⟩ := lit_sl (xs := [(⟨7, 1⟩ : Place)]) j1 (by simp [ePlace, I64, U64]) (by simp)
  have o2 : SlOk eFrag V ⟨some ⟨w.heap.size + 1 + 1, 0, none⟩, 1, [⟨1, ⟨some ⟨w.heap.size + 1, 0, none⟩, 1, [⟨7, 1⟩]⟩⟩]⟩ :=
    lit_sl (xs := [(⟨1, ⟨some ⟨w.heap.size + 1, 0, none⟩, 1, [⟨7, 1⟩]⟩⟩ : FragR)]) j2 (fun x hx => by rw [List.mem_singleton] at hx; subst hx; exact ⟨by simp [U64], o1⟩) (by simp)
  exact ⟨H1.out, by simp [I64], by simp [I64], o2, H3.out, H2.out⟩

def exampleP : Plan := ⟨0, 9, [⟨1, 4, 1, 0, 10, 12, [3, 5, 7], [], []⟩], [closedL 3 2 1, closedL 5 0 1, closedL 7 0 0], []⟩
def PlanMake (d : Plan) (w : World) (e : Ending) (w' : World) : Prop := ∃ p : PlanR, e = .returned p.v ∧ p.d = d ∧ p.Ok w' ∧ Below w.heap.size w w'

set_option maxHeartbeats 1000000 in
set_option maxRecDepth 100000 in
theorem example44 (w : World) : Calls Tryz.prog 44 #[] w (PlanMake exampleP w) := by
  have hcl := fun id last is W (h1 : U64 id) (h2 : U64 last) (h3 : I64 is) => closed91 id last is W h1 h2 h3
  have HC : Aside _ := hcl
  clear hcl
  go_enter Tryz.func44, Tryz.ntmps44
  go_wp2_with fail
  refine (HC.out _ _ _ _ (by simp [U64]) (by simp [U64]) (by simp [I64])).mono ?_
  rintro e w1 ⟨⟨i1, d1, a1, ⟨fa1, fc1, fx1⟩, s1, t1⟩, rfl, hd1, ho1, hb1⟩
  have f0 := box_mono (heap3_0 w _ _ _) hb1
  have f1 := box_mono (heap3_1 w _ _ _) hb1
  have f2 := box_mono (heap3_2 w _ _ _) hb1
  have B1 := bthen (balloc (balloc (b1 w _) _) _) hb1
  have D1 : Hid _ := hd1
  have O1 : Aside _ := ho1
  have HB1 : Aside _ := hb1
  clear hd1 ho1 hb1
  dsimp only
  go_wp2_with fail
  refine (HC.out _ _ _ _ (by simp [U64]) (by simp [U64]) (by simp [I64])).mono ?_
  rintro e w2 ⟨⟨i2, d2, a2, ⟨fa2, fc2, fx2⟩, s2, t2⟩, rfl, hd2, ho2, hb2⟩
  have g0 := box_mono f0 hb2
  have g1 := box_mono f1 hb2
  have g2 := box_mono f2 hb2
  have B2 := bthen B1 hb2
  have D2 : Hid _ := hd2
  have O2 : Aside _ := ho2
  have HB2 : Aside _ := hb2
  clear hd2 ho2 hb2 f0 f1 f2 B1
  dsimp only
  go_wp2_with fail
  refine (HC.out _ _ _ _ (by simp [U64]) (by simp [U64]) (by simp [I64])).mono ?_
  rintro e w3 ⟨⟨i3, d3, a3, ⟨fa3, fc3, fx3⟩, s3, t3⟩, rfl, hd3, ho3, hb3⟩
  have h0 := box_mono g0 hb3
  have h1 := box_mono g1 hb3
  have h2 := box_mono g2 hb3
  have B3 := bthen B2 hb3
  have D3 : Hid _ := hd3
  have O3 : Aside _ := ho3
  have HB3 : Aside _ := hb3
  obtain ⟨q0, q1, q2, q3, q4, r0, r1, r2, r3, r4⟩ := cells5 h0
  have hz := box_lt h0
  have H0 : Aside _ := h0
  have H1 : Aside _ := h1
  have H2 : Aside _ := h2
  have BB : Aside _ := B3
  clear hd3 ho3 hb3 g0 g1 g2 B2 h0 h1 h2 B3
  dsimp only
  go_wp2
  have hb1 := HB1.out
  have hb2 := HB2.out
  have hb3 := HB3.out
  have z1 := hb1.size
  have z2 := hb2.size
  have z3 := hb3.size
  simp at z1
  obtain ⟨W4, hW4⟩ : ∃ W4, ((((w3.setCell ⟨w.heap.size, 0, none⟩ (.int .u64 0)).setCell ⟨w.heap.size, 1, none⟩ (.int .u64 9)).setCell ⟨w.heap.size, 2, none⟩ (.slice (some ⟨w.heap.size + 1 + 1, 0, none⟩) 1 1)).setCell ⟨w.heap.size, 3, none⟩ (.slice (some ⟨w3.heap.size, 0, none⟩) 3 3)).setCell ⟨w.heap.size, 4, none⟩ (.slice none 0 0) = W4 := ⟨_, rfl⟩
  have hf : Far w.heap.size (w.heap.size + 1) w3 W4 := by
    rw [← hW4]
    repeat (first | (with_reducible refine far_set ?_ ⟨by simp, by simp⟩) | (with_reducible exact far_refl _ _ _))
  have hbx : W4.heap[w.heap.size]? = some (.cells #[.int .u64 0, .int .u64 9, .slice (some ⟨w.heap.size + 1 + 1, 0, none⟩) 1 1, .slice (some ⟨w3.heap.size, 0, none⟩) 3 3, .slice none 0 0] 27 (0, 0)) := by
    rw [← hW4]
    exact heap_setSame _ _ 4 _ (heap_setSame _ _ 3 _ (heap_setSame _ _ 2 _ (heap_setSame _ _ 1 _ (heap_setSame _ _ 0 _ H0.out))))
  rw [hW4]
  clear hW4 q0 q1 q2 q3 q4 r0 r1 r2 r3 r4
  have e1 := (hf.block (w.heap.size + 1) (.inr (by omega))).trans H1.out
  have e2 := (hf.block (w.heap.size + 1 + 1) (.inr (by omega))).trans H2.out
  have hsz := hf.size
  have hB4 : Below w.heap.size w W4 := hf.below BB.out (Nat.le_refl _)
  have o1 : ∀ V : World, (∀ i, w.heap.size < i → i < w3.heap.size → V.heap[i]? = w3.heap[i]?) → LedgerR.Ok V ⟨i1, d1, a1, ⟨fa1, fc1, fx1⟩, s1, t1⟩ := fun V hV => O1.out V fun i h1 h2 => by
    simp at h1
    exact ((hV i (by omega) (by omega)).trans (hb3.block i (by omega))).trans (hb2.block i h2)
  have o2 : ∀ V : World, (∀ i, w.heap.size < i → i < w3.heap.size → V.heap[i]? = w3.heap[i]?) → LedgerR.Ok V ⟨i2, d2, a2, ⟨fa2, fc2, fx2⟩, s2, t2⟩ := fun V hV => O2.out V fun i h1 h2 => (hV i (by omega) (by omega)).trans (hb3.block i h2)
  have o3 : ∀ V : World, (∀ i, w.heap.size < i → i < w3.heap.size → V.heap[i]? = w3.heap[i]?) → LedgerR.Ok V ⟨i3, d3, a3, ⟨fa3, fc3, fx3⟩, s3, t3⟩ := fun V hV => O3.out V fun i h1 h2 => hV i (by omega) h2
  obtain ⟨W5, hW5⟩ : ∃ W5, W4.alloc (.cells #[.int .u64 i1, .int .i64 d1, .int .i64 a1, .slice fa1 fx1.length fc1, .int .i64 s1, .int .u64 t1, .int .u64 i2, .int .i64 d2, .int .i64 a2, .slice fa2 fx2.length fc2, .int .i64 s2, .int .u64 t2, .int .u64 i3, .int .i64 d3, .int .i64 a3, .slice fa3 fx3.length fc3, .int .i64 s3, .int .u64 t3] 68) = W5 := ⟨_, rfl⟩
  have hb5 : Below W4.heap.size W4 W5 := by rw [← hW5]; exact b1 _ _
  have hrow : W5.heap[w3.heap.size]? = some (.cells #[.int .u64 i1, .int .i64 d1, .int .i64 a1, .slice fa1 fx1.length fc1, .int .i64 s1, .int .u64 t1, .int .u64 i2, .int .i64 d2, .int .i64 a2, .slice fa2 fx2.length fc2, .int .i64 s2, .int .u64 t2, .int .u64 i3, .int .i64 d3, .int .i64 a3, .slice fa3 fx3.length fc3, .int .i64 s3, .int .u64 t3] 68 (0, 0)) := by
    rw [← hW5]
    exact heap_top _ _ _ hsz.symm
  rw [hW5]
  clear hW5
  have hV : ∀ i, w.heap.size < i → i < w3.heap.size → W5.heap[i]? = w3.heap[i]? := fun i h1 h2 => (hb5.block i (by omega)).trans (hf.block i (.inr (by omega)))
  have g1 := box_mono e1 hb5
  have g2 := box_mono e2 hb5
  obtain ⟨q0, q1, q2, q3, q4, r0, r1, r2, r3, r4⟩ := cells5 (box_mono hbx hb5)
  refine bodyPost_ret (v := PlanR.v ⟨0, 9, ⟨some ⟨w.heap.size + 1 + 1, 0, none⟩, 1, [⟨1, 4, 1, 0, 10, 12, ⟨some ⟨w.heap.size + 1, 0, none⟩, 3, [3, 5, 7]⟩, ⟨none, 0, []⟩, ⟨none, 0, []⟩⟩]⟩, ⟨some ⟨w3.heap.size, 0, none⟩, 3, [⟨i1, d1, a1, ⟨fa1, fc1, fx1⟩, s1, t1⟩, ⟨i2, d2, a2, ⟨fa2, fc2, fx2⟩, s2, t2⟩, ⟨i3, d3, a3, ⟨fa3, fc3, fx3⟩, s3, t3⟩]⟩, ⟨none, 0, []⟩⟩) (by simp [results, Tryz.results44, go_sem, q0, q1, q2, q3, q4]) rfl ⟨_, rfl, ?_, ?_, bthen hB4 hb5⟩
  · simp only [PlanR.d, List.map_cons, List.map_nil, D1.out, D2.out, D3.out]
    rfl
  · refine ⟨by simp [U64], by simp [U64], lit_sl (E := eChannel) (xs := [_]) g2 ?_ (by simp), lit_sl (E := eLedger) (xs := [_, _, _]) hrow ?_ (by simp), SlOk.nil_ _ _⟩
    · intro x hx
      rw [List.mem_singleton] at hx
      subst hx
      exact ⟨by simp [U64], by simp [I64], by simp [U64], by simp [U64], by simp [U64], by simp [U64], lit_sl (E := eU64) (xs := [3, 5, 7]) g1 (by simp [eU64, U64]) (by simp), SlOk.nil_ _ _, SlOk.nil_ _ _⟩
    · intro x hx
      simp only [List.mem_cons, List.not_mem_nil, or_false] at hx
      rcases hx with rfl | rfl | rfl
      · exact o1 W5 hV
      · exact o2 W5 hV
      · exact o3 W5 hV
end Go.Proofs.YtdiamknibfamdaaGreat
