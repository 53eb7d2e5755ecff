/- ChainBack's walk: it returns true. -/
import Derived.Test.YtdiamknibfamdaaGreatAwake
import Derived.Test.YtdiamknibfamdaaGreatOpen
import Derived.Deep.RegionHeld3
import Derived.Deep.DrawnRows
namespace Go.Proofs.YtdiamknibfamdaaGreat
open Go.RowKit Go.Shelf

def TrueHere (w : World) (e : Ending) (w' : World) : Prop := e = .returned (.bool true) ∧ Below w.heap.size w w'

set_option maxHeartbeats 2000000 in
set_option maxRecDepth 100000 in
theorem back_long (p : PlanR) (ch sure : Int) (w : World) (hp : p.Ok w) (hl : longB p = true) : Calls Tryz.prog 3 #[p.v, .int .i64 ch, .int .u64 sure] w (TrueHere w) := by
  have h13 := long13 p _ (hp.mono (b1 w (.cells #[.int .u64 p.version, .int .u64 p.next, .slice p.channels.a p.channels.xs.length p.channels.c, .slice p.ledgers.a p.ledgers.xs.length p.ledgers.c, .slice p.past.a p.past.xs.length p.past.c] 27 (0, 0))))
  rw [hl] at h13
  clear hp hl
  obtain ⟨pv, pn, ⟨ca, cc, cs⟩, ⟨la, lc, ls⟩, ⟨pa, pc, ps⟩⟩ := p
  dsimp only at *
  go_enter Tryz.func3, Tryz.ntmps3
  go_wp2_with fail
  refine h13.mono ?_
  rintro e w1 ⟨rfl, hb1⟩
  dsimp only
  go_wp2_with fail
  refine (awake14 _).mono ?_
  rintro e w2 ⟨rfl, hb2⟩
  dsimp only
  go_wp2
  go_ret
  exact ⟨rfl, bthen (b1 w _) (bthen hb1 hb2)⟩

set_option maxHeartbeats 2000000 in
set_option maxRecDepth 100000 in
theorem back_none (p : PlanR) (ch sure : Int) (w : World) (hp : p.Ok w) (hl : longB p = false) (hs : U64 sure) (hh : chainHasB p.d ch = false) : Calls Tryz.prog 3 #[p.v, .int .i64 ch, .int .u64 sure] w (TrueHere w) := by
  have hb := small_long hl
  have h13 := fun W (hW : Below w.heap.size w W) => long13 p W (hp.mono hW)
  have h15 := fun W (hW : Below w.heap.size w W) => all15 p ch sure W (hp.mono hW) hb hs
  have h16 := fun W (hW : Below w.heap.size w W) => may16 p W (hp.mono hW) hb
  have h17 := fun W (hW : Below w.heap.size w W) => find17 p ch sure 0 W (hp.mono hW) hb hs
  have h18 := fun W (hW : Below w.heap.size w W) => length18 p ch sure W (hp.mono hW) hb hs
  have e1 : oneB p.d ch sure (fun x => decide (x.offset = 0)) = (⟨0, 0, 0⟩, 1) := by unfold oneB; rw [hh]; rfl
  have e2 : lengthB p.d ch sure = 0 := by unfold lengthB; rw [hh]; rfl
  have hcl := hp.channels.le
  have hcc := hp.channels.cap
  have hc3 : mayB p.d = true → ¬ (1 ≤ ch ∧ ch ≤ (p.channels.xs.length : Int)) := by
    intro hm hx
    have : chainHasB p.d ch = true := by
      unfold chainHasB hasB fromB
      rw [hm]
      simp only [Bool.and_true, Bool.and_eq_true, decide_eq_true_eq]
      simp only [PlanR.d, List.length_map]
      exact hx
    rw [this] at hh
    cases hh
  rw [hl] at h13
  rw [spots_none sure hh] at h15
  rw [e1] at h17
  rw [e2] at h18
  generalize mayB p.d = m at h16 hc3
  clear hp hb hl hs hh e1 e2
  obtain ⟨pv, pn, ⟨ca, cc, cs⟩, ⟨la, lc, ls⟩, ⟨pa, pc, ps⟩⟩ := p
  dsimp only at *
  go_enter Tryz.func3, Tryz.ntmps3
  go_wp2_with fail
  refine (h13 _ (b1 w _)).mono ?_
  rintro e w1 ⟨rfl, hb1⟩
  have P1 := box_mono (heap_top w _ _ rfl) hb1
  have B1 := bthen (b1 w _) hb1
  obtain ⟨q0, q1, q2, q3, q4, r0, r1, r2, r3, r4⟩ := cells5 P1
  have hz := box_lt P1
  have HP1 : Aside _ := P1
  have HB1 : Aside _ := B1
  clear hb1 P1 B1 h13
  dsimp only
  go_wp2_with fail
  refine (h15 _ HB1.out).mono ?_
  rintro e w2 ⟨a, c, rfl, hs2, _, hb2⟩
  have P2 := box_mono HP1.out hb2
  have B2 := bthen HB1.out hb2
  clear q0 q1 q2 q3 q4 r0 r1 r2 r3 r4 hz
  obtain ⟨q0, q1, q2, q3, q4, r0, r1, r2, r3, r4⟩ := cells5 P2
  have hz := box_lt P2
  have HP2 : Aside _ := P2
  have HB2 : Aside _ := B2
  clear hb2 P2 B2 h15 HP1 HB1 hs2
  dsimp only [List.length_nil]
  go_wp2_with fail
  refine (h16 _ HB2.out).mono ?_
  rintro e w3 ⟨rfl, hb3⟩
  have P3 := box_mono HP2.out hb3
  have B3 := bthen HB2.out hb3
  clear q0 q1 q2 q3 q4 r0 r1 r2 r3 r4 hz
  obtain ⟨q0, q1, q2, q3, q4, r0, r1, r2, r3, r4⟩ := cells5 P3
  have hz := box_lt P3
  have HP3 : Aside _ := P3
  have HB3 : Aside _ := B3
  clear hb3 P3 B3 h16 HP2 HB2
  cases m with
  | false =>
    dsimp only
    go_wp2_with fail
    refine (h17 _ HB3.out).mono ?_
    rintro e w4 ⟨rfl, hb4⟩
    have P4 := box_mono HP3.out hb4
    have B4 := bthen HB3.out hb4
    clear q0 q1 q2 q3 q4 r0 r1 r2 r3 r4 hz
    obtain ⟨q0, q1, q2, q3, q4, r0, r1, r2, r3, r4⟩ := cells5 P4
    have hz := box_lt P4
    have HB4 : Aside _ := B4
    clear hb4 P4 B4 HP3 HB3
    dsimp only
    go_wp2_with fail
    refine (h18 _ (balloc HB4.out _)).mono ?_
    rintro e w5 ⟨rfl, hb5⟩
    dsimp only
    go_wp2_with fail
    refine (awake14 _).mono ?_
    rintro e w6 ⟨rfl, hb6⟩
    dsimp only
    go_wp2
    go_ret
    exact ⟨rfl, bthen (balloc HB4.out _) (bthen hb5 hb6)⟩
  | true =>
    have h3 : ¬ (1 ≤ ch ∧ ch ≤ (cs.length : Int)) := hc3 rfl
    by_cases h1 : ch < 1
    · clear h3 hc3
      dsimp only
      go_wp2_with fail
      refine (h17 _ HB3.out).mono ?_
      rintro e w4 ⟨rfl, hb4⟩
      have P4 := box_mono HP3.out hb4
      have B4 := bthen HB3.out hb4
      clear q0 q1 q2 q3 q4 r0 r1 r2 r3 r4 hz
      obtain ⟨q0, q1, q2, q3, q4, r0, r1, r2, r3, r4⟩ := cells5 P4
      have hz := box_lt P4
      have HB4 : Aside _ := B4
      clear hb4 P4 B4 HP3 HB3
      dsimp only
      go_wp2_with fail
      refine (h18 _ (balloc HB4.out _)).mono ?_
      rintro e w5 ⟨rfl, hb5⟩
      dsimp only
      go_wp2_with fail
      refine (awake14 _).mono ?_
      rintro e w6 ⟨rfl, hb6⟩
      dsimp only
      go_wp2
      go_ret
      exact ⟨rfl, bthen (balloc HB4.out _) (bthen hb5 hb6)⟩
    · have h2 : (cs.length : Int) < ch := by omega
      clear h3 hc3
      dsimp only
      go_wp2_with fail
      refine (h17 _ HB3.out).mono ?_
      rintro e w4 ⟨rfl, hb4⟩
      have P4 := box_mono HP3.out hb4
      have B4 := bthen HB3.out hb4
      clear q0 q1 q2 q3 q4 r0 r1 r2 r3 r4 hz
      obtain ⟨q0, q1, q2, q3, q4, r0, r1, r2, r3, r4⟩ := cells5 P4
      have hz := box_lt P4
      have HB4 : Aside _ := B4
      clear hb4 P4 B4 HP3 HB3
      dsimp only
      go_wp2_with fail
      refine (h18 _ (balloc HB4.out _)).mono ?_
      rintro e w5 ⟨rfl, hb5⟩
      dsimp only
      go_wp2_with fail
      refine (awake14 _).mono ?_
      rintro e w6 ⟨rfl, hb6⟩
      dsimp only
      go_wp2
      go_ret
      exact ⟨rfl, bthen (balloc HB4.out _) (bthen hb5 hb6)⟩
end Go.Proofs.YtdiamknibfamdaaGreat
