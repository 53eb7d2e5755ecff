/- chain.Find, chain.Offset. -/
import Derived.Test.YtdiamknibfamdaaGreatOne
namespace Go.Proofs.YtdiamknibfamdaaGreat
open Go.RowKit Go.Shelf

theorem enters64 : ∀ args w, (callFunc 64 args).run Tryz.prog w = .ok (.enter 64 args) w := enters_of Tryz.func64 (by kernel_rfl) rfl
theorem enters66 : ∀ args w, (callFunc 66 args).run Tryz.prog w = .ok (.enter 66 args) w := enters_of Tryz.func66 (by kernel_rfl) rfl
theorem closure64 (x : Spot) (B : Nat) (o : Int) (W : World) (hB : B < W.heap.size) (hc : W.cell? ⟨B, 0, none⟩ = some (.int .u64 o)) : Calls Tryz.prog 64 #[x.v, .pointer (some ⟨B, 0, none⟩)] W fun e w' => e = .returned (.bool (decide (x.offset = o))) ∧ Below W.heap.size W w' := by
  have hne : B ≠ W.heap.size := by omega
  have hq : (x.offset == o) = decide (x.offset = o) := by rw [Bool.eq_iff_iff]; simp
  go_enter Tryz.func64, Tryz.ntmps64
  go_wp2
  go_ret
  exact ⟨rfl, b1 _ _⟩
theorem closure66 (x : Spot) (B B' : Nat) (l n : Int) (W : World) (hB : B < W.heap.size) (hB' : B' < W.heap.size) (hc : W.cell? ⟨B, 0, none⟩ = some (.int .u64 l)) (hc' : W.cell? ⟨B', 0, none⟩ = some (.int .u64 n)) :
    Calls Tryz.prog 66 #[x.v, .pointer (some ⟨B, 0, none⟩), .pointer (some ⟨B', 0, none⟩)] W fun e w' => e = .returned (.bool (decide (x.ledger = l) && decide (x.n = n))) ∧ Below W.heap.size W w' := by
  have hne : B ≠ W.heap.size := by omega
  have hne' : B' ≠ W.heap.size := by omega
  have e1 : (x.ledger == l) = decide (x.ledger = l) := by rw [Bool.eq_iff_iff]; simp
  have e2 : (x.n == n) = decide (x.n = n) := by rw [Bool.eq_iff_iff]; simp
  go_enter Tryz.func66, Tryz.ntmps66
  go_wp2
  all_goals
    go_ret
    exact ⟨by simp_all, b1 _ _⟩

set_option maxHeartbeats 2000000 in
set_option maxRecDepth 100000 in
theorem find17 (p : PlanR) (ch sure o : Int) (w : World) (hp : p.Ok w) (hb : PlanSmall p) (hs : U64 sure) :
    Calls Tryz.prog 17 #[p.v, .int .i64 ch, .int .u64 sure, .int .u64 o] w fun e w' => e = .returned (.tuple #[(oneB p.d ch sure fun x => decide (x.offset = o)).1.v, .int .i64 (oneB p.d ch sure fun x => decide (x.offset = o)).2]) ∧ Below w.heap.size w w' := by
  have hone := fun W (hW : Below w.heap.size w W) (hc : W.cell? ⟨w.heap.size + 1, 0, none⟩ = some (.int .u64 o)) (hlt : w.heap.size + 1 < W.heap.size) =>
    callsIn_wide.1 (one63 5 (by decide) p ch sure (fun x => decide (x.offset = o)) 64 #[.pointer (some ⟨w.heap.size + 1, 0, none⟩)] enters64 W (hp.mono hW) hb hs (fun W' x hb' => closure64 x (w.heap.size + 1) o W' (blt hb' hlt) ((hb'.cell (p := ⟨w.heap.size + 1, 0, none⟩) hlt).trans hc)))
  generalize oneB p.d ch sure (fun x => decide (x.offset = o)) = r at hone ⊢
  obtain ⟨⟨r1, r2, r3⟩, rc⟩ := r
  clear hp hb hs
  obtain ⟨pv, pn, ⟨ca, cc, cs⟩, ⟨la, lc, ls⟩, ⟨pa, pc, ps⟩⟩ := p
  dsimp only at *
  go_enter Tryz.func17, Tryz.ntmps17
  go_wp2_with fail
  refine (hone _ (balloc (balloc (b1 _ _) _) _) (cells1 (heap3_1 w _ _ _)).1 (by simp)).mono ?_
  rintro e w1 ⟨rfl, hb'⟩
  obtain ⟨d0, d1, d2, f0, f1, f2⟩ := cells3 (box_mono (heap3_2 w _ _ _) hb')
  have hz := box_lt (box_mono (heap3_2 w _ _ _) hb')
  have HB : Aside _ := hb'
  clear hb' hone
  dsimp only
  go_wp2
  refine bodyPost_ret (v := .tuple #[Spot.v ⟨r1, r2, r3⟩, .int .i64 rc]) (by simp [results, Tryz.results17, go_sem, d0, d1, d2]) rfl ⟨rfl, ?_⟩
  exact Far.below (lo := w.heap.size + 1 + 1) (hi := w.heap.size + 1 + 1 + 1) (by repeat (first | (with_reducible refine far_set ?_ ⟨by simp, by simp⟩) | (with_reducible exact far_refl _ _ _))) (bthen (balloc (balloc (b1 w _) _) _) HB.out) (by omega)

set_option maxHeartbeats 2000000 in
set_option maxRecDepth 100000 in
theorem offset19 (p : PlanR) (ch sure l n : Int) (w : World) (hp : p.Ok w) (hb : PlanSmall p) (hs : U64 sure) :
    Calls Tryz.prog 19 #[p.v, .int .i64 ch, .int .u64 sure, .int .u64 l, .int .u64 n] w fun e w' => e = .returned (.tuple #[.int .u64 (oneB p.d ch sure fun x => decide (x.ledger = l) && decide (x.n = n)).1.offset, .int .i64 (oneB p.d ch sure fun x => decide (x.ledger = l) && decide (x.n = n)).2]) ∧ Below w.heap.size w w' := by
  have hone := fun W (hW : Below w.heap.size w W) (hc : W.cell? ⟨w.heap.size + 1, 0, none⟩ = some (.int .u64 l)) (hc' : W.cell? ⟨w.heap.size + 1 + 1, 0, none⟩ = some (.int .u64 n)) (hlt : w.heap.size + 1 + 1 < W.heap.size) =>
    callsIn_wide.1 (one63 5 (by decide) p ch sure (fun x => decide (x.ledger = l) && decide (x.n = n)) 66 #[.pointer (some ⟨w.heap.size + 1, 0, none⟩), .pointer (some ⟨w.heap.size + 1 + 1, 0, none⟩)] enters66 W (hp.mono hW) hb hs (fun W' x hb' =>
      closure66 x (w.heap.size + 1) (w.heap.size + 1 + 1) l n W' (blt hb' (by omega)) (blt hb' hlt) ((hb'.cell (p := ⟨w.heap.size + 1, 0, none⟩) (by dsimp only; omega)).trans hc) ((hb'.cell (p := ⟨w.heap.size + 1 + 1, 0, none⟩) hlt).trans hc')))
  generalize oneB p.d ch sure (fun x => decide (x.ledger = l) && decide (x.n = n)) = r at hone ⊢
  obtain ⟨⟨r1, r2, r3⟩, rc⟩ := r
  clear hp hb hs
  obtain ⟨pv, pn, ⟨ca, cc, cs⟩, ⟨la, lc, ls⟩, ⟨pa, pc, ps⟩⟩ := p
  dsimp only at *
  go_enter Tryz.func19, Tryz.ntmps19
  go_wp2_with fail
  refine (hone _ (balloc (balloc (b1 _ _) _) _) (cells1 (heap3_1 w _ _ _)).1 (cells1 (heap3_2 w _ _ _)).1 (by simp)).mono ?_
  rintro e w1 ⟨rfl, hb'⟩
  have HB : Aside _ := hb'
  clear hb' hone
  dsimp only
  go_wp2
  refine bodyPost_ret (v := .tuple #[.int .u64 r1, .int .i64 rc]) (by simp [results, Tryz.results19, go_sem]) rfl ⟨rfl, ?_⟩
  exact balloc (bthen (balloc (balloc (b1 w _) _) _) HB.out) _
end Go.Proofs.YtdiamknibfamdaaGreat
