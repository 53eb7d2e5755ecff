/- Whether fragments and ledgers may be. -/
import Derived.Test.YtdiamknibfamdaaGreatFrag
namespace Go.Proofs.YtdiamknibfamdaaGreat
open Go.RowKit Go.Shelf

set_option maxHeartbeats 400000 in
set_option maxRecDepth 100000 in
theorem mayFrags100 (wd : Int) (s : Sl FragR) (w : World) (hs : SlOk eFrag w s) (hb : ∀ x ∈ s.xs, FragSmall x) :
    Calls Tryz.prog 100 #[.int .i64 wd, .slice s.a s.xs.length s.c] w fun e w' => e = .returned (.bool (mayFragsB wd (s.xs.map FragR.d))) ∧ Below w.heap.size w w' := by
  have hall := fun W (hW : Below w.heap.size w W) (hc : W.cell? ⟨w.heap.size, 0, none⟩ = some (.int .i64 wd)) (hlt : w.heap.size < W.heap.size) =>
    all151 s (fun x => fragB wd x.d) 152 #[.pointer (some ⟨w.heap.size, 0, none⟩)] enters152 W (hs.mono hW) (fun W' x hx hb' => mayFragsClosure152 wd w.heap.size x W' (blt hb' hlt) ((hb'.cell (p := ⟨w.heap.size, 0, none⟩) hlt).trans hc) (eFrag.mono (hs.ok x hx) (bthen hW hb')) (hb x hx))
  have hri := fun W (hW : Below w.heap.size w W) => rise154 s (fun x => x.first) 155 #[] enters155 W (hs.mono hW) (fun W' x _ _ => key155 x W')
  have hcap := hs.cap
  have hle := hs.le
  have hhd : ∀ x, s.xs[0]? = some x → ∃ b off, s.a = some ⟨b, off, none⟩ ∧ w.cell? ⟨b, off, none⟩ = some (.int .u64 x.first) ∧ b < w.heap.size := by
    intro x hx
    obtain ⟨b, off, y, ha, hy, hbk, hat, _⟩ := hs.get (j := 0) (List.getElem?_eq_some_iff.1 hx).1
    rw [hx] at hy; cases hy
    exact ⟨b, off, ha, by have := (at_frag hat).1; simpa using this, hbk⟩
  obtain ⟨a, c, xs⟩ := s
  have e0 : mayFragsB wd (xs.map FragR.d) = (fromB xs.length 1 6 && firstIsOne (xs.map FragR.d) && xs.all (fun x => fragB wd x.d) && riseB (xs.map (fun x => x.first))) := by
    simp [mayFragsB, List.all_map, Function.comp_def, FragR.d]
  dsimp only at hall hri hcap hle hhd ⊢
  generalize mayFragsB wd (xs.map FragR.d) = r at e0 ⊢
  have E0 : Hid _ := e0
  clear e0 hs hb
  generalize xs.all (fun x => fragB wd x.d) = p1 at hall E0
  generalize riseB (xs.map fun x => x.first) = p2 at hri E0
  rcases xs with _ | ⟨x, xs'⟩
  case nil =>
    clear hhd
    have hfr : fromB ((([] : List FragR).length : Nat) : Int) 1 6 = false := by simp [fromB]
    have HFR : Hid _ := hfr
    simp only [List.length_nil] at hall hri hcap hle ⊢
    go_enter Tryz.func100, Tryz.ntmps100
    go_wp2_with (go_at_call 50; refine (from50 _ _ _ _).mono ?_; rintro e w' ⟨rfl, rfl⟩)
    all_goals (go_ret; exact ⟨ret_bool (by rw [E0.out]; simp [fromB]), b1 _ _⟩)
  case cons =>
    obtain ⟨b, off, rfl, hc, hbk⟩ := hhd x rfl
    have hne : b ≠ w.heap.size := by omega
    have hlen : (0 : Int) < (((x :: xs').length : Nat) : Int) := by simp
    have hlen0 : 0 < (x :: xs').length := by simp
    generalize hL : (x :: xs').length = L at *
    go_enter Tryz.func100, Tryz.ntmps100
    go_wp2_with (first | (go_at_call 50; refine (from50 _ _ _ _).mono ?_; rintro e w' ⟨rfl, rfl⟩) | (go_at_call 151; refine (hall _ (b1 _ _) (by simp) (by simp)).mono ?_; rintro e w3 ⟨rfl, hb3⟩) | (go_at_call 154; refine (hri _ (bthen (b1 _ _) hb3)).mono ?_; rintro e w4 ⟨rfl, hb4⟩))
    all_goals (go_ret; refine ⟨ret_bool (by rw [E0.out]; simp_all [firstIsOne, FragR.d]), ?_⟩; first | exact bthen (bthen (b1 _ _) hb3) hb4 | exact bthen (b1 _ _) hb3 | exact b1 _ _)
/-- .. of a ledger. -/
def LedgerSmall (x : LedgerR) : Prop := x.frags.xs.length ≤ 1000000 ∧ ∀ f ∈ x.frags.xs, FragSmall f

set_option maxHeartbeats 2000000 in
set_option maxRecDepth 100000 in
theorem mayLedger53 (l : LedgerR) (w : World) (hl : eLedger.ok w l) (hb : LedgerSmall l) : Calls Tryz.prog 53 #[l.v] w fun e w' => e = .returned (.bool (mayLedgerB l.d)) ∧ Below w.heap.size w w' := by
  obtain ⟨id, wd, ac, s, cl, la⟩ := l
  have hmf := fun W (hW : Below w.heap.size w W) => mayFrags100 wd s W (hl.2.2.2.1.mono hW) hb.2
  have hla : U64 la := hl.2.2.2.2.2
  have e0 : mayLedgerB (LedgerR.d ⟨id, wd, ac, s, cl, la⟩) = (fromB id 1 4611686018427387903 && fromB ac 1 wd && decide (wd ≤ 5) && mayFragsB wd (s.xs.map FragR.d) && fromB cl 0 1 && decide (la ≤ 8 * cl)) := rfl
  generalize mayLedgerB (LedgerR.d ⟨id, wd, ac, s, cl, la⟩) = r at e0 ⊢
  generalize mayFragsB wd (s.xs.map FragR.d) = p1 at e0 hmf
  have E0 : Hid _ := e0
  clear e0 hl hb
  obtain ⟨hla0, hla1⟩ := hla
  by_cases hc : 0 ≤ cl ∧ cl ≤ 1
  · obtain ⟨hc0, hc1⟩ := hc
    have hcf : fromB cl 0 1 = true := by simp [fromB, hc0, hc1]
    go_enter Tryz.func53, Tryz.ntmps53
    go_wp2_with (first | (go_at_call 49; refine (from49 _ _ _ _).mono ?_; rintro e w' ⟨rfl, rfl⟩) | (go_at_call 50; refine (from50 _ _ _ _).mono ?_; rintro e w' ⟨rfl, rfl⟩) | (go_at_call 100; refine (hmf _ (b1 _ _)).mono ?_; rintro e w3 ⟨rfl, hb3⟩; have B := cells6 ((hb3.block w.heap.size (by simp)).trans (heap_top w _ _ rfl)); obtain ⟨c0, c1, c2, c3, c4, c5, g0, g1, g2, g3, g4, g5⟩ := B; have hz : w.heap.size < w3.heap.size := (by have := hb3.size; simp at this; omega)))
    all_goals (go_ret; refine ⟨ret_bool (by rw [E0.out]; first | (simp_all; done) | (simp_all; omega)), ?_⟩; first | exact bthen (b1 _ _) hb3 | exact b1 _ _)
  · have hcf : fromB cl 0 1 = false := by
      unfold fromB
      by_cases h1 : 0 ≤ cl <;> by_cases h2 : cl ≤ 1 <;> simp_all
    clear hc
    go_enter Tryz.func53, Tryz.ntmps53
    go_wp2_with (first | (go_at_call 49; refine (from49 _ _ _ _).mono ?_; rintro e w' ⟨rfl, rfl⟩) | (go_at_call 50; refine (from50 _ _ _ _).mono ?_; rintro e w' ⟨rfl, rfl⟩) | (go_at_call 100; refine (hmf _ (b1 _ _)).mono ?_; rintro e w3 ⟨rfl, hb3⟩; have B := cells6 ((hb3.block w.heap.size (by simp)).trans (heap_top w _ _ rfl)); obtain ⟨c0, c1, c2, c3, c4, c5, g0, g1, g2, g3, g4, g5⟩ := B; have hz : w.heap.size < w3.heap.size := (by have := hb3.size; simp at this; omega)))
    all_goals (go_ret; refine ⟨ret_bool (by rw [E0.out]; first | (simp_all; done) | (simp_all; omega)), ?_⟩; first | exact bthen (b1 _ _) hb3 | exact b1 _ _)

set_option maxHeartbeats 400000 in
theorem mayClosure52 (l : LedgerR) (B : Nat) (p : PlanR) (W : World) (hB : B < W.heap.size) (hcell : W.cell? ⟨B, 1, none⟩ = some (.int .u64 p.next)) (hl : eLedger.ok W l) (hb : LedgerSmall l) :
    Calls Tryz.prog 52 #[l.v, .pointer (some ⟨B, 0, none⟩)] W fun e w' => e = .returned (.bool (mayLedgerB l.d && decide (l.id < p.next))) ∧ Below W.heap.size W w' := by
  have hcl := fun W' (hW : Below W.heap.size W W') => mayLedger53 l W' (eLedger.mono hl hW) hb
  have hne : B ≠ W.heap.size := by omega
  generalize mayLedgerB l.d = r at hcl ⊢
  clear hl hb
  go_enter Tryz.func52, Tryz.ntmps52
  go_wp2_with fail
  refine (hcl _ (b1 _ _)).mono ?_
  rintro e w' ⟨rfl, hb'⟩
  obtain ⟨c0, c1, c2, c3, c4, c5, g0, g1, g2, g3, g4, g5⟩ := cells6 ((hb'.block W.heap.size (by simp)).trans (heap_top W _ _ rfl))
  have hz : W.heap.size < w'.heap.size := by have := hb'.size; simp at this; omega
  have hq := ((bthen (b1 W _) hb').cell (p := ⟨B, 1, none⟩) hB).trans hcell
  dsimp only
  go_wp2
  all_goals (go_ret; exact ⟨ret_bool (by simp_all), bthen (b1 _ _) hb'⟩)
theorem enters52 : ∀ args w, (callFunc 52 args).run Tryz.prog w = .ok (.enter 52 args) w := enters_of Tryz.func52 (by kernel_rfl) rfl

end Go.Proofs.YtdiamknibfamdaaGreat
