/- The chapter's plan. -/
import Derived.Test.YtdiamknibfamdaaGreatLong
import Derived.Test.YtdiamknibfamdaaGreatPlC
import Derived.Test.YtdiamknibfamdaaGreatEqual
import Derived.Test.YtdiamknibfamdaaGreatGone
import Derived.Test.YtdiamknibfamdaaGreatOpen
import Derived.Deep.RegionHeld3
import Derived.Deep.DrawnRows
namespace Go.Proofs.YtdiamknibfamdaaGreat
open Go.RowKit Go.Shelf

/-- A row of elements that was laid whole. -/
theorem lit_sl {α : Type} {E : El α} {w : World} {B : Nat} {t : TypeId} {fr : Nat × Nat} {xs : List α} (hB : w.heap[B]? = some (.cells (xs.flatMap E.enc).toArray t fr)) (h : ∀ x ∈ xs, E.ok w x) (hn : xs.length ≤ 9223372036854775807) : SlOk E w ⟨some ⟨B, 0, none⟩, xs.length, xs⟩ :=
  ⟨Nat.le_refl _, hn, (fun h => by cases h), fun _ => ⟨B, 0, rfl, (Array.getElem?_eq_some_iff.1 hB).1, fun j x hj i v hv => by
    have h1 := flat_at E xs j i x v hj hv
    rw [World.cell?, hB]
    simpa using h1⟩, h⟩

def closedL (id last is : Int) : Ledger := ⟨id, 1, 1, [⟨1, [⟨7, 1⟩]⟩], is, last⟩
/-- A ledger that was made: it reads so wherever the blocks that were laid for it lie as they lie. -/
def LedgerMake (d : Ledger) (w : World) (e : Ending) (w' : World) : Prop :=
  ∃ l : LedgerR, e = .returned l.v ∧ l.d = d ∧ (∀ W : World, (∀ i, w.heap.size ≤ i → i < w'.heap.size → W.heap[i]? = w'.heap[i]?) → l.Ok W) ∧ Below w.heap.size w w'

set_option maxRecDepth 100000 in
theorem closed91 (id last is : Int) (w : World) (h1 : U64 id) (h2 : U64 last) (h3 : I64 is) : Calls Tryz.prog 91 #[.int .u64 id, .int .u64 last, .int .i64 is] w (LedgerMake (closedL id last is) w) := by
  have H1 : Hid _ := h1
  have H2 : Hid _ := h2
  have H3 : Hid _ := h3
  clear h1 h2 h3
  go_enter Tryz.func91, Tryz.ntmps91
  go_wp2
  refine bodyPost_ret (v := LedgerR.v ⟨id, 1, 1, ⟨some ⟨w.heap.size + 1 + 1, 0, none⟩, 1, [⟨1, ⟨some ⟨w.heap.size + 1, 0, none⟩, 1, [⟨7, 1⟩]⟩⟩]⟩, is, last⟩) (by simp [results, Tryz.results91, go_sem]) rfl ?_
  obtain ⟨W, hW⟩ : ∃ W, ((w.alloc (.cells #[.int .u64 id, .int .i64 1, .int .i64 1, .slice (some ⟨w.heap.size + 1 + 1, 0, none⟩) 1 1, .int .i64 is, .int .u64 last] 68)).alloc (.cells #[.int .i64 7, .int .u64 1] 59)).alloc (.cells #[.int .u64 1, .slice (some ⟨w.heap.size + 1, 0, none⟩) 1 1] 113) = W := ⟨_, rfl⟩
  have k1 := heap3_1 w (.cells #[.int .u64 id, .int .i64 1, .int .i64 1, .slice (some ⟨w.heap.size + 1 + 1, 0, none⟩) 1 1, .int .i64 is, .int .u64 last] 68) (.cells #[.int .i64 7, .int .u64 1] 59) (.cells #[.int .u64 1, .slice (some ⟨w.heap.size + 1, 0, none⟩) 1 1] 113)
  have k2 := heap3_2 w (.cells #[.int .u64 id, .int .i64 1, .int .i64 1, .slice (some ⟨w.heap.size + 1 + 1, 0, none⟩) 1 1, .int .i64 is, .int .u64 last] 68) (.cells #[.int .i64 7, .int .u64 1] 59) (.cells #[.int .u64 1, .slice (some ⟨w.heap.size + 1, 0, none⟩) 1 1] 113)
  have hb : Below w.heap.size w W := by rw [← hW]; exact balloc (balloc (b1 w _) _) _
  rw [hW] at k1 k2 ⊢
  clear hW
  refine ⟨_, rfl, rfl, fun V hV => ?_, hb⟩
  have j1 := (hV _ (by omega) (Array.getElem?_eq_some_iff.1 k1).1).trans k1
  have j2 := (hV _ (by omega) (Array.getElem?_eq_some_iff.1 k2).1).trans k2
  have o1 : SlOk ePlace V ⟨some ⟨w.heap.size + 1, 0, none⟩, 1, [⟨7, 1⟩]⟩ := lit_sl (xs := [(⟨7, 1⟩ : Place)]) j1 (by simp [ePlace, I64, U64]) (by simp)
  have o2 : SlOk eFrag V ⟨some ⟨w.heap.size + 1 + 1, 0, none⟩, 1, [⟨1, ⟨some ⟨w.heap.size + 1, 0, none⟩, 1, [⟨7, 1⟩]⟩⟩]⟩ :=
    lit_sl (xs := [(⟨1, ⟨some ⟨w.heap.size + 1, 0, none⟩, 1, [⟨7, 1⟩]⟩⟩ : FragR)]) j2 (fun x hx => by rw [List.mem_singleton] at hx; subst hx; exact ⟨by simp [U64], o1⟩) (by simp)
  exact ⟨H1.out, by simp [I64], by simp [I64], o2, H3.out, H2.out⟩

def exampleP : Plan := ⟨0, 9, [⟨1, 4, 1, 0, 10, 12, [3, 5, 7], [], []⟩], [closedL 3 2 1, closedL 5 0 1, closedL 7 0 0], []⟩
def PlanMake (d : Plan) (w : World) (e : Ending) (w' : World) : Prop := ∃ p : PlanR, e = .returned p.v ∧ p.d = d ∧ p.Ok w' ∧ Below w.heap.size w w'

set_option maxHeartbeats 1000000 in
set_option maxRecDepth 100000 in
theorem example44 (w : World) : Calls Tryz.prog 44 #[] w (PlanMake exampleP w) := by
  have hcl := fun id last is W (h1 : U64 id) (h2 : U64 last) (h3 : I64 is) => closed91 id last is W h1 h2 h3
  have HC : Aside _ := hcl
  clear hcl
  go_enter Tryz.func44, Tryz.ntmps44
  go_wp2_with fail
  refine (HC.out _ _ _ _ (by simp [U64]) (by simp [U64]) (by simp [I64])).mono ?_
  rintro e w1 ⟨⟨i1, d1, a1, ⟨fa1, fc1, fx1⟩, s1, t1⟩, rfl, hd1, ho1, hb1⟩
  have f0 := box_mono (heap3_0 w _ _ _) hb1
  have f1 := box_mono (heap3_1 w _ _ _) hb1
  have f2 := box_mono (heap3_2 w _ _ _) hb1
  have B1 := bthen (balloc (balloc (b1 w _) _) _) hb1
  have D1 : Hid _ := hd1
  have O1 : Aside _ := ho1
  have HB1 : Aside _ := hb1
  clear hd1 ho1 hb1
  dsimp only
  go_wp2_with fail
  refine (HC.out _ _ _ _ (by simp [U64]) (by simp [U64]) (by simp [I64])).mono ?_
  rintro e w2 ⟨⟨i2, d2, a2, ⟨fa2, fc2, fx2⟩, s2, t2⟩, rfl, hd2, ho2, hb2⟩
  have g0 := box_mono f0 hb2
  have g1 := box_mono f1 hb2
  have g2 := box_mono f2 hb2
  have B2 := bthen B1 hb2
  have D2 : Hid _ := hd2
  have O2 : Aside _ := ho2
  have HB2 : Aside _ := hb2
  clear hd2 ho2 hb2 f0 f1 f2 B1
  dsimp only
  go_wp2_with fail
  refine (HC.out _ _ _ _ (by simp [U64]) (by simp [U64]) (by simp [I64])).mono ?_
  rintro e w3 ⟨⟨i3, d3, a3, ⟨fa3, fc3, fx3⟩, s3, t3⟩, rfl, hd3, ho3, hb3⟩
  have h0 := box_mono g0 hb3
  have h1 := box_mono g1 hb3
  have h2 := box_mono g2 hb3
  have B3 := bthen B2 hb3
  have D3 : Hid _ := hd3
  have O3 : Aside _ := ho3
  have HB3 : Aside _ := hb3
  obtain ⟨q0, q1, q2, q3, q4, r0, r1, r2, r3, r4⟩ := cells5 h0
  have hz := box_lt h0
  have H0 : Aside _ := h0
  have H1 : Aside _ := h1
  have H2 : Aside _ := h2
  have BB : Aside _ := B3
  clear hd3 ho3 hb3 g0 g1 g2 B2 h0 h1 h2 B3
  dsimp only
  go_wp2
  have hb1 := HB1.out
  have hb2 := HB2.out
  have hb3 := HB3.out
  have z1 := hb1.size
  have z2 := hb2.size
  have z3 := hb3.size
  simp at z1
  obtain ⟨W4, hW4⟩ : ∃ W4, ((((w3.setCell ⟨w.heap.size, 0, none⟩ (.int .u64 0)).setCell ⟨w.heap.size, 1, none⟩ (.int .u64 9)).setCell ⟨w.heap.size, 2, none⟩ (.slice (some ⟨w.heap.size + 1 + 1, 0, none⟩) 1 1)).setCell ⟨w.heap.size, 3, none⟩ (.slice (some ⟨w3.heap.size, 0, none⟩) 3 3)).setCell ⟨w.heap.size, 4, none⟩ (.slice none 0 0) = W4 := ⟨_, rfl⟩
  have hf : Far w.heap.size (w.heap.size + 1) w3 W4 := by
    rw [← hW4]
    repeat (first | (with_reducible refine far_set ?_ ⟨by simp, by simp⟩) | (with_reducible exact far_refl _ _ _))
  have hbx : W4.heap[w.heap.size]? = some (.cells #[.int .u64 0, .int .u64 9, .slice (some ⟨w.heap.size + 1 + 1, 0, none⟩) 1 1, .slice (some ⟨w3.heap.size, 0, none⟩) 3 3, .slice none 0 0] 27 (0, 0)) := by
    rw [← hW4]
    exact heap_setSame _ _ 4 _ (heap_setSame _ _ 3 _ (heap_setSame _ _ 2 _ (heap_setSame _ _ 1 _ (heap_setSame _ _ 0 _ H0.out))))
  rw [hW4]
  clear hW4 q0 q1 q2 q3 q4 r0 r1 r2 r3 r4
  have e1 := (hf.block (w.heap.size + 1) (.inr (by omega))).trans H1.out
  have e2 := (hf.block (w.heap.size + 1 + 1) (.inr (by omega))).trans H2.out
  have hsz := hf.size
  have hB4 : Below w.heap.size w W4 := hf.below BB.out (Nat.le_refl _)
  have o1 : ∀ V : World, (∀ i, w.heap.size < i → i < w3.heap.size → V.heap[i]? = w3.heap[i]?) → LedgerR.Ok V ⟨i1, d1, a1, ⟨fa1, fc1, fx1⟩, s1, t1⟩ := fun V hV => O1.out V fun i h1 h2 => by
    simp at h1
    exact ((hV i (by omega) (by omega)).trans (hb3.block i (by omega))).trans (hb2.block i h2)
  have o2 : ∀ V : World, (∀ i, w.heap.size < i → i < w3.heap.size → V.heap[i]? = w3.heap[i]?) → LedgerR.Ok V ⟨i2, d2, a2, ⟨fa2, fc2, fx2⟩, s2, t2⟩ := fun V hV => O2.out V fun i h1 h2 => (hV i (by omega) (by omega)).trans (hb3.block i h2)
  have o3 : ∀ V : World, (∀ i, w.heap.size < i → i < w3.heap.size → V.heap[i]? = w3.heap[i]?) → LedgerR.Ok V ⟨i3, d3, a3, ⟨fa3, fc3, fx3⟩, s3, t3⟩ := fun V hV => O3.out V fun i h1 h2 => hV i (by omega) h2
  obtain ⟨W5, hW5⟩ : ∃ W5, W4.alloc (.cells #[.int .u64 i1, .int .i64 d1, .int .i64 a1, .slice fa1 fx1.length fc1, .int .i64 s1, .int .u64 t1, .int .u64 i2, .int .i64 d2, .int .i64 a2, .slice fa2 fx2.length fc2, .int .i64 s2, .int .u64 t2, .int .u64 i3, .int .i64 d3, .int .i64 a3, .slice fa3 fx3.length fc3, .int .i64 s3, .int .u64 t3] 68) = W5 := ⟨_, rfl⟩
  have hb5 : Below W4.heap.size W4 W5 := by rw [← hW5]; exact b1 _ _
  have hrow : W5.heap[w3.heap.size]? = some (.cells #[.int .u64 i1, .int .i64 d1, .int .i64 a1, .slice fa1 fx1.length fc1, .int .i64 s1, .int .u64 t1, .int .u64 i2, .int .i64 d2, .int .i64 a2, .slice fa2 fx2.length fc2, .int .i64 s2, .int .u64 t2, .int .u64 i3, .int .i64 d3, .int .i64 a3, .slice fa3 fx3.length fc3, .int .i64 s3, .int .u64 t3] 68 (0, 0)) := by
    rw [← hW5]
    exact heap_top _ _ _ hsz.symm
  rw [hW5]
  clear hW5
  have hV : ∀ i, w.heap.size < i → i < w3.heap.size → W5.heap[i]? = w3.heap[i]? := fun i h1 h2 => (hb5.block i (by omega)).trans (hf.block i (.inr (by omega)))
  have g1 := box_mono e1 hb5
  have g2 := box_mono e2 hb5
  obtain ⟨q0, q1, q2, q3, q4, r0, r1, r2, r3, r4⟩ := cells5 (box_mono hbx hb5)
  refine bodyPost_ret (v := PlanR.v ⟨0, 9, ⟨some ⟨w.heap.size + 1 + 1, 0, none⟩, 1, [⟨1, 4, 1, 0, 10, 12, ⟨some ⟨w.heap.size + 1, 0, none⟩, 3, [3, 5, 7]⟩, ⟨none, 0, []⟩, ⟨none, 0, []⟩⟩]⟩, ⟨some ⟨w3.heap.size, 0, none⟩, 3, [⟨i1, d1, a1, ⟨fa1, fc1, fx1⟩, s1, t1⟩, ⟨i2, d2, a2, ⟨fa2, fc2, fx2⟩, s2, t2⟩, ⟨i3, d3, a3, ⟨fa3, fc3, fx3⟩, s3, t3⟩]⟩, ⟨none, 0, []⟩⟩) (by simp [results, Tryz.results44, go_sem, q0, q1, q2, q3, q4]) rfl ⟨_, rfl, ?_, ?_, bthen hB4 hb5⟩
  · simp only [PlanR.d, List.map_cons, List.map_nil, D1.out, D2.out, D3.out]
    rfl
  · refine ⟨by simp [U64], by simp [U64], lit_sl (E := eChannel) (xs := [_]) g2 ?_ (by simp), lit_sl (E := eLedger) (xs := [_, _, _]) hrow ?_ (by simp), SlOk.nil_ _ _⟩
    · intro x hx
      rw [List.mem_singleton] at hx
      subst hx
      exact ⟨by simp [U64], by simp [I64], by simp [U64], by simp [U64], by simp [U64], by simp [U64], lit_sl (E := eU64) (xs := [3, 5, 7]) g1 (by simp [eU64, U64]) (by simp), SlOk.nil_ _ _, SlOk.nil_ _ _⟩
    · intro x hx
      simp only [List.mem_cons, List.not_mem_nil, or_false] at hx
      rcases hx with rfl | rfl | rfl
      · exact o1 W5 hV
      · exact o2 W5 hV
      · exact o3 W5 hV
end Go.Proofs.YtdiamknibfamdaaGreat
/- The references: SameIds, SameSpots, SameMarks. -/
namespace Go.Proofs.YtdiamknibfamdaaGreat
open Go.RowKit Go.Shelf


set_option maxHeartbeats 1000000 in
theorem same27 (s r : Sl Int) (w : World) (hs : SlOk eU64 w s) (hr : SlOk eU64 w r) :
    Calls Tryz.prog 27 #[.slice s.a s.xs.length s.c, .slice r.a r.xs.length r.c] w fun e w' => e = .returned (.bool (decide (s.xs = r.xs))) ∧ Below w.heap.size w w' := by
  obtain ⟨a, c, xs⟩ := s
  obtain ⟨a', c', ys⟩ := r
  have hle := hs.le
  have hcap := hs.cap
  have hle' := hr.le
  have hcap' := hr.cap
  dsimp only at hle hcap hle' hcap' ⊢
  by_cases hl : xs.length = ys.length
  case neg =>
    have hb : ((xs.length : Int) != (ys.length : Int)) = true := by rw [bne_iff_ne]; omega
    clear hs hr
    go_enter Tryz.func27, Tryz.ntmps27
    go_wp2
    go_ret
    exact ⟨ret_bool (by rw [decide_eq_false]; intro h; exact hl (by rw [h])), Below.refl _ _⟩
  have hb : ((xs.length : Int) != (ys.length : Int)) = false := by rw [hl]; simp
  have HL : Hid _ := hl
  clear hl
  go_enter Tryz.func27, Tryz.ntmps27
  go_wp2
  go_loopg [5] xs.length (fun gg s13 wr => ∃ kk : Nat, kk ≤ xs.length ∧ xs.length - kk ≤ gg ∧ s13 = .int .i64 kk ∧ Aside (Below w.heap.size w wr) ∧ Aside (∀ j, j < kk → xs[j]? = ys[j]?))
  case atStart => exact ⟨0, Nat.zero_le _, by omega, rfl, Below.refl _ w, fun j hj => absurd hj (Nat.not_lt_zero _)⟩
  case round =>
    obtain ⟨kk, hkk, hg, rfl, BW, A⟩ := hrel
    by_cases hlt : kk < xs.length
    · obtain ⟨b, off, y1, ha, hy1, hb1, hat1, hok1⟩ := (hs.mono BW.out).get (j := kk) hlt
      obtain ⟨b', off', y2, ha', hy2, hb2, hat2, hok2⟩ := (hr.mono BW.out).get (j := kk) (by rw [HL.out] at hlt; exact hlt)
      have m1 := fun W (hW : Below wr.heap.size wr W) => hat1.mono hb1 hW
      have m2 := fun W (hW : Below wr.heap.size wr W) => hat2.mono hb2 hW
      have hltz : (kk : Int) < (xs.length : Int) := by omega
      have hltz2 : (kk : Int) < (ys.length : Int) := by have := HL.out; omega
      have hlt2 : kk < ys.length := by omega
      dsimp only at ha ha' hy1 hy2
      simp only [show eU64.k = 1 from rfl, Nat.mul_one] at m1 m2
      have d0 := fun W hW => (at_u64 (m1 W hW))
      have e0 := fun W hW => (at_u64 (m2 W hW))
      have Y1 : Hid _ := hy1
      have Y2 : Hid _ := hy2
      clear hy1 hy2 hat1 hat2 hok1 hok2 hs hr m1 m2
      subst ha
      subst ha'
      go_wp2_with fail
      refine region_cls (fun w' => Below wr.heap.size wr w') (by kernel_rfl) (by kernel_rfl) (Below.refl _ _).drew ?_
      repeat (go_big_quiet_step ((first | exact fun _ => rfl | (intro hW; simp only [Result.andThen, d0 _ hW]; first | exact ⟨trivial, rfl⟩ | exact ⟨rfl, rfl⟩ | rfl) | (intro hW; simp only [Result.andThen, e0 _ hW]; first | exact ⟨trivial, rfl⟩ | exact ⟨rfl, rfl⟩ | rfl))))
      refine wpQuiet_nil ?_
      intro W hW
      have HW : Aside (Below wr.heap.size wr W) := hW
      clear hW
      by_cases hv : y1 = y2
      · have hv' : (y1 != y2) = false := by simp [hv]
        have HV : Hid _ := hv
        clear hv
        go_wp2
        go_roundg (xs.length - (kk + 1))
        case measure => omega
        case rel => exact ⟨kk + 1, by omega, by omega, by go_num, bthen BW.out HW.out, fun j hj => by
          by_cases e : j = kk
          · subst e; rw [Y1.out, Y2.out, HV.out]
          · exact A.out j (by omega)⟩
      · have hv' : (y1 != y2) = true := by simp [hv]
        have HV : Hid _ := hv
        clear hv
        go_wp2
        go_ret
        exact ⟨ret_bool (by rw [decide_eq_false]; rintro rfl; have := Y1.out.symm.trans Y2.out; cases this; exact HV.out rfl), bthen BW.out HW.out⟩
    · have hltz : ¬ (kk : Int) < (xs.length : Int) := by omega
      go_wp2
      go_ret
      exact ⟨ret_bool (by rw [decide_eq_true]; exact ext_below HL.out (fun j hj => A.out j (by omega))), BW.out⟩

set_option maxHeartbeats 1000000 in
theorem same20 (s r : Sl Spot) (w : World) (hs : SlOk eSpot w s) (hr : SlOk eSpot w r) :
    Calls Tryz.prog 20 #[.slice s.a s.xs.length s.c, .slice r.a r.xs.length r.c] w fun e w' => e = .returned (.bool (decide (s.xs = r.xs))) ∧ Below w.heap.size w w' := by
  obtain ⟨a, c, xs⟩ := s
  obtain ⟨a', c', ys⟩ := r
  have hle := hs.le
  have hcap := hs.cap
  have hle' := hr.le
  have hcap' := hr.cap
  dsimp only at hle hcap hle' hcap' ⊢
  by_cases hl : xs.length = ys.length
  case neg =>
    have hb : ((xs.length : Int) != (ys.length : Int)) = true := by rw [bne_iff_ne]; omega
    clear hs hr
    go_enter Tryz.func20, Tryz.ntmps20
    go_wp2
    go_ret
    exact ⟨ret_bool (by rw [decide_eq_false]; intro h; exact hl (by rw [h])), Below.refl _ _⟩
  have hb : ((xs.length : Int) != (ys.length : Int)) = false := by rw [hl]; simp
  have HL : Hid _ := hl
  clear hl
  go_enter Tryz.func20, Tryz.ntmps20
  go_wp2
  go_loopg [5] xs.length (fun gg s13 wr => ∃ kk : Nat, kk ≤ xs.length ∧ xs.length - kk ≤ gg ∧ s13 = .int .i64 kk ∧ Aside (Below w.heap.size w wr) ∧ Aside (∀ j, j < kk → xs[j]? = ys[j]?))
  case atStart => exact ⟨0, Nat.zero_le _, by omega, rfl, Below.refl _ w, fun j hj => absurd hj (Nat.not_lt_zero _)⟩
  case round =>
    obtain ⟨kk, hkk, hg, rfl, BW, A⟩ := hrel
    by_cases hlt : kk < xs.length
    · obtain ⟨b, off, y1, ha, hy1, hb1, hat1, hok1⟩ := (hs.mono BW.out).get (j := kk) hlt
      obtain ⟨b', off', y2, ha', hy2, hb2, hat2, hok2⟩ := (hr.mono BW.out).get (j := kk) (by rw [HL.out] at hlt; exact hlt)
      have m1 := fun W (hW : Below wr.heap.size wr W) => hat1.mono hb1 hW
      have m2 := fun W (hW : Below wr.heap.size wr W) => hat2.mono hb2 hW
      have hltz : (kk : Int) < (xs.length : Int) := by omega
      have hltz2 : (kk : Int) < (ys.length : Int) := by have := HL.out; omega
      have hlt2 : kk < ys.length := by omega
      dsimp only at ha ha' hy1 hy2
      simp only [show eSpot.k = 3 from rfl] at m1 m2
      have d0 := fun W hW => (at_spot (m1 W hW)).1; have d1 := fun W hW => (at_spot (m1 W hW)).2.1; have d2 := fun W hW => (at_spot (m1 W hW)).2.2
      have e0 := fun W hW => (at_spot (m2 W hW)).1; have e1 := fun W hW => (at_spot (m2 W hW)).2.1; have e2 := fun W hW => (at_spot (m2 W hW)).2.2
      have Y1 : Hid _ := hy1
      have Y2 : Hid _ := hy2
      clear hy1 hy2 hat1 hat2 hok1 hok2 hs hr m1 m2
      subst ha
      subst ha'
      have q1 := fun w => neq_spot y1 y2 w
      have q2 := fun op a b w => guard_spot op a b y1 y2 w
      generalize hq : decide (y1 = y2) = q at q1
      have HQ : Hid _ := hq
      clear hq
      go_wp2_with fail
      refine region_cls (fun w' => Below wr.heap.size wr w') (by kernel_rfl) (by kernel_rfl) (Below.refl _ _).drew ?_
      repeat (go_big_quiet_step ((first | exact fun _ => rfl | (intro hW; simp only [Result.andThen, d0 _ hW, d1 _ hW, d2 _ hW]; first | exact ⟨trivial, rfl⟩ | exact ⟨rfl, rfl⟩ | rfl) | (intro hW; simp only [Result.andThen, e0 _ hW, e1 _ hW, e2 _ hW]; first | exact ⟨trivial, rfl⟩ | exact ⟨rfl, rfl⟩ | rfl))))
      refine wpQuiet_nil ?_
      intro W hW
      have HW : Aside (Below wr.heap.size wr W) := hW
      clear hW
      cases q
      case true =>
        have HV : Hid (y1 = y2) := (of_decide_eq_true (p := y1 = y2) HQ.out)
        go_wp2
        go_roundg (xs.length - (kk + 1))
        case measure => omega
        case rel => exact ⟨kk + 1, by omega, by omega, by go_num, bthen BW.out HW.out, fun j hj => by
          by_cases e : j = kk
          · subst e; rw [Y1.out, Y2.out, HV.out]
          · exact A.out j (by omega)⟩
      case false =>
        have HV : Hid (¬ y1 = y2) := (of_decide_eq_false (p := y1 = y2) HQ.out)
        go_wp2
        go_ret
        exact ⟨ret_bool (by rw [decide_eq_false]; rintro rfl; have := Y1.out.symm.trans Y2.out; cases this; exact HV.out rfl), bthen BW.out HW.out⟩
    · have hltz : ¬ (kk : Int) < (xs.length : Int) := by omega
      go_wp2
      go_ret
      exact ⟨ret_bool (by rw [decide_eq_true]; exact ext_below HL.out (fun j hj => A.out j (by omega))), BW.out⟩

set_option maxHeartbeats 1000000 in
theorem same129 (s r : Sl Mark) (w : World) (hs : SlOk eMark w s) (hr : SlOk eMark w r) :
    Calls Tryz.prog 129 #[.slice s.a s.xs.length s.c, .slice r.a r.xs.length r.c] w fun e w' => e = .returned (.bool (decide (s.xs = r.xs))) ∧ Below w.heap.size w w' := by
  obtain ⟨a, c, xs⟩ := s
  obtain ⟨a', c', ys⟩ := r
  have hle := hs.le
  have hcap := hs.cap
  have hle' := hr.le
  have hcap' := hr.cap
  dsimp only at hle hcap hle' hcap' ⊢
  by_cases hl : xs.length = ys.length
  case neg =>
    have hb : ((xs.length : Int) != (ys.length : Int)) = true := by rw [bne_iff_ne]; omega
    clear hs hr
    go_enter Tryz.func129, Tryz.ntmps129
    go_wp2
    go_ret
    exact ⟨ret_bool (by rw [decide_eq_false]; intro h; exact hl (by rw [h])), Below.refl _ _⟩
  have hb : ((xs.length : Int) != (ys.length : Int)) = false := by rw [hl]; simp
  have HL : Hid _ := hl
  clear hl
  go_enter Tryz.func129, Tryz.ntmps129
  go_wp2
  go_loopg [5] xs.length (fun gg s13 wr => ∃ kk : Nat, kk ≤ xs.length ∧ xs.length - kk ≤ gg ∧ s13 = .int .i64 kk ∧ Aside (Below w.heap.size w wr) ∧ Aside (∀ j, j < kk → xs[j]? = ys[j]?))
  case atStart => exact ⟨0, Nat.zero_le _, by omega, rfl, Below.refl _ w, fun j hj => absurd hj (Nat.not_lt_zero _)⟩
  case round =>
    obtain ⟨kk, hkk, hg, rfl, BW, A⟩ := hrel
    by_cases hlt : kk < xs.length
    · obtain ⟨b, off, y1, ha, hy1, hb1, hat1, hok1⟩ := (hs.mono BW.out).get (j := kk) hlt
      obtain ⟨b', off', y2, ha', hy2, hb2, hat2, hok2⟩ := (hr.mono BW.out).get (j := kk) (by rw [HL.out] at hlt; exact hlt)
      have m1 := fun W (hW : Below wr.heap.size wr W) => hat1.mono hb1 hW
      have m2 := fun W (hW : Below wr.heap.size wr W) => hat2.mono hb2 hW
      have hltz : (kk : Int) < (xs.length : Int) := by omega
      have hltz2 : (kk : Int) < (ys.length : Int) := by have := HL.out; omega
      have hlt2 : kk < ys.length := by omega
      dsimp only at ha ha' hy1 hy2
      simp only [show eMark.k = 3 from rfl] at m1 m2
      have d0 := fun W hW => (at_mark (m1 W hW)).1; have d1 := fun W hW => (at_mark (m1 W hW)).2.1; have d2 := fun W hW => (at_mark (m1 W hW)).2.2
      have e0 := fun W hW => (at_mark (m2 W hW)).1; have e1 := fun W hW => (at_mark (m2 W hW)).2.1; have e2 := fun W hW => (at_mark (m2 W hW)).2.2
      have Y1 : Hid _ := hy1
      have Y2 : Hid _ := hy2
      clear hy1 hy2 hat1 hat2 hok1 hok2 hs hr m1 m2
      subst ha
      subst ha'
      have q1 := fun w => neq_mark y1 y2 w
      have q2 := fun op a b w => guard_mark op a b y1 y2 w
      generalize hq : decide (y1 = y2) = q at q1
      have HQ : Hid _ := hq
      clear hq
      go_wp2_with fail
      refine region_cls (fun w' => Below wr.heap.size wr w') (by kernel_rfl) (by kernel_rfl) (Below.refl _ _).drew ?_
      repeat (go_big_quiet_step ((first | exact fun _ => rfl | (intro hW; simp only [Result.andThen, d0 _ hW, d1 _ hW, d2 _ hW]; first | exact ⟨trivial, rfl⟩ | exact ⟨rfl, rfl⟩ | rfl) | (intro hW; simp only [Result.andThen, e0 _ hW, e1 _ hW, e2 _ hW]; first | exact ⟨trivial, rfl⟩ | exact ⟨rfl, rfl⟩ | rfl))))
      refine wpQuiet_nil ?_
      intro W hW
      have HW : Aside (Below wr.heap.size wr W) := hW
      clear hW
      cases q
      case true =>
        have HV : Hid (y1 = y2) := (of_decide_eq_true (p := y1 = y2) HQ.out)
        go_wp2
        go_roundg (xs.length - (kk + 1))
        case measure => omega
        case rel => exact ⟨kk + 1, by omega, by omega, by go_num, bthen BW.out HW.out, fun j hj => by
          by_cases e : j = kk
          · subst e; rw [Y1.out, Y2.out, HV.out]
          · exact A.out j (by omega)⟩
      case false =>
        have HV : Hid (¬ y1 = y2) := (of_decide_eq_false (p := y1 = y2) HQ.out)
        go_wp2
        go_ret
        exact ⟨ret_bool (by rw [decide_eq_false]; rintro rfl; have := Y1.out.symm.trans Y2.out; cases this; exact HV.out rfl), bthen BW.out HW.out⟩
    · have hltz : ¬ (kk : Int) < (xs.length : Int) := by omega
      go_wp2
      go_ret
      exact ⟨ret_bool (by rw [decide_eq_true]; exact ext_below HL.out (fun j hj => A.out j (by omega))), BW.out⟩

end Go.Proofs.YtdiamknibfamdaaGreat
/- The chapter's examples hold. -/
namespace Go.Proofs.YtdiamknibfamdaaGreat
open Go.RowKit Go.Shelf

def smallB (d : Plan) : Bool :=
  decide (d.channels.length ≤ 1000) && decide (d.ledgers.length ≤ 1000) && decide (d.past.length ≤ 1000) && d.ledgers.all (fun l => decide (l.frags.length ≤ 1000) && l.frags.all fun f => decide (f.bookies.length ≤ 1000)) &&
    d.channels.all fun c => decide (c.ledgers.length ≤ 1000) && decide (c.seen.length ≤ 1000) && decide (c.cursors.length ≤ 1000)
theorem small_of {p : PlanR} (h : smallB p.d = true) : PlanSmall p := by
  simp only [smallB, Bool.and_eq_true, decide_eq_true_eq, List.all_eq_true, PlanR.d, List.length_map, List.mem_map, forall_exists_index, and_imp, forall_apply_eq_imp_iff₂] at h
  obtain ⟨⟨⟨⟨h1, h2⟩, h3⟩, h4⟩, h5⟩ := h
  have h3 : p.past.xs.length ≤ 1000 := of_decide_eq_true h3
  refine ⟨by omega, by omega, by omega, fun l hl => ?_, fun c hc => ?_⟩
  · obtain ⟨h6, h7⟩ := h4 l hl
    simp only [LedgerR.d, List.length_map, List.mem_map, forall_exists_index, and_imp, forall_apply_eq_imp_iff₂] at h6 h7
    refine ⟨by omega, fun f hf => ?_⟩
    have := h7 f hf
    simp only [FragR.d] at this
    unfold FragSmall
    omega
  · have := h5 c hc
    simp only [ChannelR.d] at this
    omega
theorem small_ex {p : PlanR} (h : p.d = exampleP) : PlanSmall p := small_of (by rw [h]; decide +kernel)
theorem small_long {p : PlanR} (h : longB p = false) : PlanSmall p := by
  simp only [longB, longFragsB, longChanB, Bool.or_eq_false_iff, decide_eq_false_iff_not, List.any_eq_false, Bool.not_eq_true] at h
  obtain ⟨⟨⟨⟨h1, h2⟩, h3⟩, h4⟩, h5⟩ := h
  refine ⟨by omega, by omega, by omega, fun l hl => ?_, fun c hc => ?_⟩
  · obtain ⟨h6, h7⟩ := h5 l hl
    refine ⟨by omega, fun f hf => ?_⟩
    have := h7 f hf
    unfold FragSmall
    omega
  · have := h4 c hc
    omega

theorem ex1 : oneB exampleP 1 1 (fun x => decide (x.offset = 11)) = (⟨11, 3, 2⟩, 0) := by decide +kernel
theorem ex2 : oneB exampleP 1 1 (fun x => decide (x.offset = 12)) = (⟨12, 7, 1⟩, 0) := by decide +kernel
theorem ex3 : oneB exampleP 1 1 (fun x => decide (x.offset = 13)) = (⟨0, 0, 0⟩, 4) := by decide +kernel
theorem ex4 : oneB exampleP 1 1 (fun x => decide (x.ledger = 7) && decide (x.n = 1)) = (⟨12, 7, 1⟩, 0) := by decide +kernel
theorem ex5 : goneB exampleP 1 = ([3, 5], 7, 12) := by decide +kernel
theorem ex6 : lengthB exampleP 1 1 = 13 := by decide +kernel

/-- What the chain tells of the chapter's plan. -/
structure ExTold (p : PlanR) (w : World) : Prop where
  c1 : Calls Tryz.prog 17 #[p.v, .int .i64 1, .int .u64 1, .int .u64 11] w fun e w' => e = .returned (.tuple #[.agg #[.int .u64 11, .int .u64 3, .int .u64 2], .int .i64 0]) ∧ Below w.heap.size w w'
  c2 : Calls Tryz.prog 17 #[p.v, .int .i64 1, .int .u64 1, .int .u64 12] w fun e w' => e = .returned (.tuple #[.agg #[.int .u64 12, .int .u64 7, .int .u64 1], .int .i64 0]) ∧ Below w.heap.size w w'
  c3 : Calls Tryz.prog 17 #[p.v, .int .i64 1, .int .u64 1, .int .u64 13] w fun e w' => e = .returned (.tuple #[.agg #[.int .u64 0, .int .u64 0, .int .u64 0], .int .i64 4]) ∧ Below w.heap.size w w'
  c4 : Calls Tryz.prog 19 #[p.v, .int .i64 1, .int .u64 1, .int .u64 7, .int .u64 1] w fun e w' => e = .returned (.tuple #[.int .u64 12, .int .i64 0]) ∧ Below w.heap.size w w'
  c5 : Calls Tryz.prog 25 #[p.v, .int .i64 1] w fun e w' => ∃ a c, e = .returned (.tuple #[.slice a 2 c, .int .u64 7, .int .u64 12]) ∧ SlOk eU64 w' ⟨a, c, [3, 5]⟩ ∧ Below w.heap.size w w'
  c6 : Calls Tryz.prog 18 #[p.v, .int .i64 1, .int .u64 1] w fun e w' => e = .returned (.int .u64 13) ∧ Below w.heap.size w w'
theorem ex_told {p : PlanR} {w : World} (h : p.d = exampleP) (hp : p.Ok w) : ExTold p w := by
  have hb := small_ex h
  have hs : U64 1 := by simp [U64]
  have a1 := find17 p 1 1 11 w hp hb hs
  have a2 := find17 p 1 1 12 w hp hb hs
  have a3 := find17 p 1 1 13 w hp hb hs
  have a4 := offset19 p 1 1 7 1 w hp hb hs
  have a5 := callsIn_wide.1 (gone25 5 (by decide) p 1 w hp hb)
  have a6 := length18 p 1 1 w hp hb hs
  rw [h] at a1 a2 a3 a4 a5 a6
  rw [ex1] at a1
  rw [ex2] at a2
  rw [ex3] at a3
  rw [ex4] at a4
  rw [ex5] at a5
  rw [ex6] at a6
  exact ⟨a1, a2, a3, a4, a5, a6⟩

set_option maxHeartbeats 2000000 in
set_option maxRecDepth 100000 in
theorem awake14 (w : World) : Calls Tryz.prog 14 #[] w fun e w' => e = .returned (.bool true) ∧ Below w.heap.size w w' := by
  have hex := fun W => example44 W
  have hte := fun (p : PlanR) W (h : p.d = exampleP) (hp : p.Ok W) => ex_told h hp
  go_enter Tryz.func14, Tryz.ntmps14
  go_wp2_with fail
  refine (hex _).mono ?_
  rintro e w1 ⟨p, rfl, hd, hp, hb1⟩
  have HD : Hid _ := hd
  have HP : Aside (p.Ok w1) := hp
  have HB : Aside _ := hb1
  have HT : Aside _ := hte p
  clear hex hte hd hp hb1
  obtain ⟨pv, pn, ⟨ca, cc, cs⟩, ⟨la, lc, ls⟩, ⟨pa, pc, ps⟩⟩ := p
  dsimp only
  go_wp2_with fail
  refine (HT.out _ HD.out (HP.out.mono (b1 _ _))).c1.mono ?_
  rintro e w2 ⟨rfl, hb2⟩
  have P2 := box_mono (heap_top w1 _ _ rfl) hb2
  have B2 := bthen (b1 w1 _) hb2
  obtain ⟨q0, q1, q2, q3, q4, r0, r1, r2, r3, r4⟩ := cells5 P2
  have hz := box_lt P2
  have HP2 : Aside _ := P2
  have HB2 : Aside _ := B2
  clear hb2 P2 B2
  dsimp only
  go_wp2_with fail
  refine (HT.out _ HD.out (HP.out.mono (balloc HB2.out _))).c2.mono ?_
  rintro e w3 ⟨rfl, hb3⟩
  have P3 := box_mono (box_mono HP2.out (b1 _ _)) hb3
  have A3 := box_mono (heap_top w2 _ _ rfl) hb3
  have B3 := bthen (balloc HB2.out _) hb3
  clear q0 q1 q2 q3 q4 r0 r1 r2 r3 r4 hz
  obtain ⟨q0, q1, q2, q3, q4, r0, r1, r2, r3, r4⟩ := cells5 P3
  have hz := box_lt P3
  have HP3 : Aside _ := P3
  have HA3 : Aside _ := A3
  have HB3 : Aside _ := B3
  clear hb3 P3 A3 B3 HP2 HB2
  dsimp only
  go_wp2_with fail
  refine (HT.out _ HD.out (HP.out.mono (balloc HB3.out _))).c3.mono ?_
  rintro e w4 ⟨rfl, hb4⟩
  have P4 := box_mono (box_mono HP3.out (b1 _ _)) hb4
  have A4 := box_mono (box_mono HA3.out (b1 _ _)) hb4
  have C4 := box_mono (heap_top w3 _ _ rfl) hb4
  have B4 := bthen (balloc HB3.out _) hb4
  clear q0 q1 q2 q3 q4 r0 r1 r2 r3 r4 hz
  obtain ⟨q0, q1, q2, q3, q4, r0, r1, r2, r3, r4⟩ := cells5 P4
  have hz := box_lt P4
  have HP4 : Aside _ := P4
  have HA4 : Aside _ := A4
  have HC4 : Aside _ := C4
  have HB4 : Aside _ := B4
  clear hb4 P4 A4 C4 B4 HP3 HA3 HB3
  dsimp only
  go_wp2_with fail
  refine (HT.out _ HD.out (HP.out.mono (balloc HB4.out _))).c4.mono ?_
  rintro e w5 ⟨rfl, hb5⟩
  have P5 := box_mono (box_mono HP4.out (b1 _ _)) hb5
  have A5 := box_mono (box_mono HA4.out (b1 _ _)) hb5
  have C5 := box_mono (box_mono HC4.out (b1 _ _)) hb5
  have B5 := bthen (balloc HB4.out _) hb5
  clear q0 q1 q2 q3 q4 r0 r1 r2 r3 r4 hz
  obtain ⟨q0, q1, q2, q3, q4, r0, r1, r2, r3, r4⟩ := cells5 P5
  have hz := box_lt P5
  have HP5 : Aside _ := P5
  have HA5 : Aside _ := A5
  have HC5 : Aside _ := C5
  have HB5 : Aside _ := B5
  clear hb5 P5 A5 C5 B5 HP4 HA4 HC4 HB4
  dsimp only
  go_wp2_with fail
  refine (HT.out _ HD.out (HP.out.mono HB5.out)).c5.mono ?_
  rintro e w6 ⟨ga, gc, rfl, hg6, hb6⟩
  have P6 := box_mono HP5.out hb6
  have A6 := box_mono HA5.out hb6
  have C6 := box_mono HC5.out hb6
  have B6 := bthen HB5.out hb6
  clear q0 q1 q2 q3 q4 r0 r1 r2 r3 r4 hz
  obtain ⟨q0, q1, q2, q3, q4, r0, r1, r2, r3, r4⟩ := cells5 P6
  have hz := box_lt P6
  have HA6 : Aside _ := A6
  have HC6 : Aside _ := C6
  have HB6 : Aside _ := B6
  have HG6 : Aside _ := hg6
  clear hb6 P6 A6 C6 B6 HP5 HA5 HC5 HB5 hg6
  dsimp only
  go_wp2_with fail
  refine (HT.out _ HD.out (HP.out.mono HB6.out)).c6.mono ?_
  rintro e w7 ⟨rfl, hb7⟩
  have A7 := box_mono HA6.out hb7
  have C7 := box_mono HC6.out hb7
  have B7 := bthen HB6.out hb7
  have G7 := HG6.out.mono hb7
  clear q0 q1 q2 q3 q4 r0 r1 r2 r3 r4 hz
  obtain ⟨a0, a1, a2, s0, s1, s2⟩ := cells3 A7
  obtain ⟨d0, d1, d2, u0, u1, u2⟩ := cells3 C7
  have hz := box_lt C7
  have HB7 : Aside _ := B7
  have HG7 : Aside _ := G7
  clear hb7 A7 C7 B7 HA6 HC6 HB6 HG6 G7
  have n1 := fun W => eql_spot ⟨11, 3, 2⟩ ⟨11, 3, 2⟩ W
  have n2 := fun W => eql_spot ⟨12, 7, 1⟩ ⟨12, 7, 1⟩ W
  have n3 := fun op a b W => guard_spot op a b ⟨11, 3, 2⟩ ⟨11, 3, 2⟩ W
  have n4 := fun op a b W => guard_spot op a b ⟨12, 7, 1⟩ ⟨12, 7, 1⟩ W
  dsimp only at n1 n2 n3 n4 ⊢
  go_wp2_with fail
  refine (same27 ⟨ga, gc, [3, 5]⟩ ⟨some ⟨w7.heap.size, 0, none⟩, 2, [3, 5]⟩ _ (HG7.out.mono (b1 _ _)) (lit_sl (xs := [(3 : Int), 5]) (heap_top w7 _ _ rfl) (by simp [eU64, U64]) (by simp))).mono ?_
  rintro e w8 ⟨rfl, hb8⟩
  simp only [decide_true]
  go_wp2
  go_ret
  exact ⟨rfl, bthen HB.out (bthen (balloc HB7.out _) hb8)⟩
end Go.Proofs.YtdiamknibfamdaaGreat
/- ChainBack's walk: it returns true. -/
namespace Go.Proofs.YtdiamknibfamdaaGreat
open Go.RowKit Go.Shelf

def TrueHere (w : World) (e : Ending) (w' : World) : Prop := e = .returned (.bool true) ∧ Below w.heap.size w w'

set_option maxHeartbeats 2000000 in
set_option maxRecDepth 100000 in
theorem back_long (p : PlanR) (ch sure : Int) (w : World) (hp : p.Ok w) (hl : longB p = true) : Calls Tryz.prog 3 #[p.v, .int .i64 ch, .int .u64 sure] w (TrueHere w) := by
  have h13 := long13 p _ (hp.mono (b1 w (.cells #[.int .u64 p.version, .int .u64 p.next, .slice p.channels.a p.channels.xs.length p.channels.c, .slice p.ledgers.a p.ledgers.xs.length p.ledgers.c, .slice p.past.a p.past.xs.length p.past.c] 27 (0, 0))))
  rw [hl] at h13
  clear hp hl
  obtain ⟨pv, pn, ⟨ca, cc, cs⟩, ⟨la, lc, ls⟩, ⟨pa, pc, ps⟩⟩ := p
  dsimp only at *
  go_enter Tryz.func3, Tryz.ntmps3
  go_wp2_with fail
  refine h13.mono ?_
  rintro e w1 ⟨rfl, hb1⟩
  dsimp only
  go_wp2_with fail
  refine (awake14 _).mono ?_
  rintro e w2 ⟨rfl, hb2⟩
  dsimp only
  go_wp2
  go_ret
  exact ⟨rfl, bthen (b1 w _) (bthen hb1 hb2)⟩

set_option maxHeartbeats 2000000 in
set_option maxRecDepth 100000 in
theorem back_none (p : PlanR) (ch sure : Int) (w : World) (hp : p.Ok w) (hl : longB p = false) (hs : U64 sure) (hh : chainHasB p.d ch = false) : Calls Tryz.prog 3 #[p.v, .int .i64 ch, .int .u64 sure] w (TrueHere w) := by
  have hb := small_long hl
  have h13 := fun W (hW : Below w.heap.size w W) => long13 p W (hp.mono hW)
  have h15 := fun W (hW : Below w.heap.size w W) => all15 p ch sure W (hp.mono hW) hb hs
  have h16 := fun W (hW : Below w.heap.size w W) => may16 p W (hp.mono hW) hb
  have h17 := fun W (hW : Below w.heap.size w W) => find17 p ch sure 0 W (hp.mono hW) hb hs
  have h18 := fun W (hW : Below w.heap.size w W) => length18 p ch sure W (hp.mono hW) hb hs
  have e1 : oneB p.d ch sure (fun x => decide (x.offset = 0)) = (⟨0, 0, 0⟩, 1) := by unfold oneB; rw [hh]; rfl
  have e2 : lengthB p.d ch sure = 0 := by unfold lengthB; rw [hh]; rfl
  have hcl := hp.channels.le
  have hcc := hp.channels.cap
  have hc3 : mayB p.d = true → ¬ (1 ≤ ch ∧ ch ≤ (p.channels.xs.length : Int)) := by
    intro hm hx
    have : chainHasB p.d ch = true := by
      unfold chainHasB hasB fromB
      rw [hm]
      simp only [Bool.and_true, Bool.and_eq_true, decide_eq_true_eq]
      simp only [PlanR.d, List.length_map]
      exact hx
    rw [this] at hh
    cases hh
  rw [hl] at h13
  rw [spots_none sure hh] at h15
  rw [e1] at h17
  rw [e2] at h18
  generalize mayB p.d = m at h16 hc3
  clear hp hb hl hs hh e1 e2
  obtain ⟨pv, pn, ⟨ca, cc, cs⟩, ⟨la, lc, ls⟩, ⟨pa, pc, ps⟩⟩ := p
  dsimp only at *
  go_enter Tryz.func3, Tryz.ntmps3
  go_wp2_with fail
  refine (h13 _ (b1 w _)).mono ?_
  rintro e w1 ⟨rfl, hb1⟩
  have P1 := box_mono (heap_top w _ _ rfl) hb1
  have B1 := bthen (b1 w _) hb1
  obtain ⟨q0, q1, q2, q3, q4, r0, r1, r2, r3, r4⟩ := cells5 P1
  have hz := box_lt P1
  have HP1 : Aside _ := P1
  have HB1 : Aside _ := B1
  clear hb1 P1 B1 h13
  dsimp only
  go_wp2_with fail
  refine (h15 _ HB1.out).mono ?_
  rintro e w2 ⟨a, c, rfl, hs2, _, hb2⟩
  have P2 := box_mono HP1.out hb2
  have B2 := bthen HB1.out hb2
  clear q0 q1 q2 q3 q4 r0 r1 r2 r3 r4 hz
  obtain ⟨q0, q1, q2, q3, q4, r0, r1, r2, r3, r4⟩ := cells5 P2
  have hz := box_lt P2
  have HP2 : Aside _ := P2
  have HB2 : Aside _ := B2
  clear hb2 P2 B2 h15 HP1 HB1 hs2
  dsimp only [List.length_nil]
  go_wp2_with fail
  refine (h16 _ HB2.out).mono ?_
  rintro e w3 ⟨rfl, hb3⟩
  have P3 := box_mono HP2.out hb3
  have B3 := bthen HB2.out hb3
  clear q0 q1 q2 q3 q4 r0 r1 r2 r3 r4 hz
  obtain ⟨q0, q1, q2, q3, q4, r0, r1, r2, r3, r4⟩ := cells5 P3
  have hz := box_lt P3
  have HP3 : Aside _ := P3
  have HB3 : Aside _ := B3
  clear hb3 P3 B3 h16 HP2 HB2
  cases m with
  | false =>
    dsimp only
    go_wp2_with fail
    refine (h17 _ HB3.out).mono ?_
    rintro e w4 ⟨rfl, hb4⟩
    have P4 := box_mono HP3.out hb4
    have B4 := bthen HB3.out hb4
    clear q0 q1 q2 q3 q4 r0 r1 r2 r3 r4 hz
    obtain ⟨q0, q1, q2, q3, q4, r0, r1, r2, r3, r4⟩ := cells5 P4
    have hz := box_lt P4
    have HB4 : Aside _ := B4
    clear hb4 P4 B4 HP3 HB3
    dsimp only
    go_wp2_with fail
    refine (h18 _ (balloc HB4.out _)).mono ?_
    rintro e w5 ⟨rfl, hb5⟩
    dsimp only
    go_wp2_with fail
    refine (awake14 _).mono ?_
    rintro e w6 ⟨rfl, hb6⟩
    dsimp only
    go_wp2
    go_ret
    exact ⟨rfl, bthen (balloc HB4.out _) (bthen hb5 hb6)⟩
  | true =>
    have h3 : ¬ (1 ≤ ch ∧ ch ≤ (cs.length : Int)) := hc3 rfl
    by_cases h1 : ch < 1
    · clear h3 hc3
      dsimp only
      go_wp2_with fail
      refine (h17 _ HB3.out).mono ?_
      rintro e w4 ⟨rfl, hb4⟩
      have P4 := box_mono HP3.out hb4
      have B4 := bthen HB3.out hb4
      clear q0 q1 q2 q3 q4 r0 r1 r2 r3 r4 hz
      obtain ⟨q0, q1, q2, q3, q4, r0, r1, r2, r3, r4⟩ := cells5 P4
      have hz := box_lt P4
      have HB4 : Aside _ := B4
      clear hb4 P4 B4 HP3 HB3
      dsimp only
      go_wp2_with fail
      refine (h18 _ (balloc HB4.out _)).mono ?_
      rintro e w5 ⟨rfl, hb5⟩
      dsimp only
      go_wp2_with fail
      refine (awake14 _).mono ?_
      rintro e w6 ⟨rfl, hb6⟩
      dsimp only
      go_wp2
      go_ret
      exact ⟨rfl, bthen (balloc HB4.out _) (bthen hb5 hb6)⟩
    · have h2 : (cs.length : Int) < ch := by omega
      clear h3 hc3
      dsimp only
      go_wp2_with fail
      refine (h17 _ HB3.out).mono ?_
      rintro e w4 ⟨rfl, hb4⟩
      have P4 := box_mono HP3.out hb4
      have B4 := bthen HB3.out hb4
      clear q0 q1 q2 q3 q4 r0 r1 r2 r3 r4 hz
      obtain ⟨q0, q1, q2, q3, q4, r0, r1, r2, r3, r4⟩ := cells5 P4
      have hz := box_lt P4
      have HB4 : Aside _ := B4
      clear hb4 P4 B4 HP3 HB3
      dsimp only
      go_wp2_with fail
      refine (h18 _ (balloc HB4.out _)).mono ?_
      rintro e w5 ⟨rfl, hb5⟩
      dsimp only
      go_wp2_with fail
      refine (awake14 _).mono ?_
      rintro e w6 ⟨rfl, hb6⟩
      dsimp only
      go_wp2
      go_ret
      exact ⟨rfl, bthen (balloc HB4.out _) (bthen hb5 hb6)⟩
end Go.Proofs.YtdiamknibfamdaaGreat
