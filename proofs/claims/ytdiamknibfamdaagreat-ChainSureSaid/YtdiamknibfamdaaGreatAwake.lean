/- The chapter's examples hold. -/
import Derived.Test.YtdiamknibfamdaaGreatEx
import Derived.Test.YtdiamknibfamdaaGreatGone
import Derived.Test.YtdiamknibfamdaaGreatSame
namespace Go.Proofs.YtdiamknibfamdaaGreat
open Go.RowKit Go.Shelf

def smallB (d : Plan) : Bool :=
  decide (d.channels.length ≤ 1000) && decide (d.ledgers.length ≤ 1000) && decide (d.past.length ≤ 1000) && d.ledgers.all (fun l => decide (l.frags.length ≤ 1000) && l.frags.all fun f => decide (f.bookies.length ≤ 1000)) &&
    d.channels.all fun c => decide (c.ledgers.length ≤ 1000) && decide (c.seen.length ≤ 1000) && decide (c.cursors.length ≤ 1000)
theorem small_of {p : PlanR} (h : smallB p.d = true) : PlanSmall p := by
  simp only [smallB, Bool.and_eq_true, decide_eq_true_eq, List.all_eq_true, PlanR.d, List.length_map, List.mem_map, forall_exists_index, and_imp, forall_apply_eq_imp_iff₂] at h
  obtain ⟨⟨⟨⟨h1, h2⟩, h3⟩, h4⟩, h5⟩ := h
  have h3 : p.past.xs.length ≤ 1000 := of_decide_eq_true h3
  refine ⟨by omega, by omega, by omega, fun l hl => ?_, fun c hc => ?_⟩
  · obtain ⟨h6, h7⟩ := h4 l hl
    simp only [LedgerR.d, List.length_map, List.mem_map, forall_exists_index, and_imp, forall_apply_eq_imp_iff₂] at h6 h7
    refine ⟨by omega, fun f hf => ?_⟩
    have := h7 f hf
    simp only [FragR.d] at this
    unfold FragSmall
    omega
  · have := h5 c hc
    simp only [ChannelR.d] at this
    omega
theorem small_ex {p : PlanR} (h : p.d = exampleP) : PlanSmall p := small_of (by rw [h]; decide +kernel)
theorem small_long {p : PlanR} (h : longB p = false) : PlanSmall p := by
  simp only [longB, longFragsB, longChanB, Bool.or_eq_false_iff, decide_eq_false_iff_not, List.any_eq_false, Bool.not_eq_true] at h
  obtain ⟨⟨⟨⟨h1, h2⟩, h3⟩, h4⟩, h5⟩ := h
  refine ⟨by omega, by omega, by omega, fun l hl => ?_, fun c hc => ?_⟩
  · obtain ⟨h6, h7⟩ := h5 l hl
    refine ⟨by omega, fun f hf => ?_⟩
    have := h7 f hf
    unfold FragSmall
    omega
  · have := h4 c hc
    omega

theorem ex1 : oneB exampleP 1 1 (fun x => decide (x.offset = 11)) = (⟨11, 3, 2⟩, 0) := by decide +kernel
theorem ex2 : oneB exampleP 1 1 (fun x => decide (x.offset = 12)) = (⟨12, 7, 1⟩, 0) := by decide +kernel
theorem ex3 : oneB exampleP 1 1 (fun x => decide (x.offset = 13)) = (⟨0, 0, 0⟩, 4) := by decide +kernel
theorem ex4 : oneB exampleP 1 1 (fun x => decide (x.ledger = 7) && decide (x.n = 1)) = (⟨12, 7, 1⟩, 0) := by decide +kernel
theorem ex5 : goneB exampleP 1 = ([3, 5], 7, 12) := by decide +kernel
theorem ex6 : lengthB exampleP 1 1 = 13 := by decide +kernel

/-- What the chain tells of the chapter's plan. -/
structure ExTold (p : PlanR) (w : World) : Prop where
  c1 : Calls Tryz.prog 17 #[p.v, .int .i64 1, .int .u64 1, .int .u64 11] w fun e w' => e = .returned (.tuple #[.agg #[.int .u64 11, .int .u64 3, .int .u64 2], .int .i64 0]) ∧ Below w.heap.size w w'
  c2 : Calls Tryz.prog 17 #[p.v, .int .i64 1, .int .u64 1, .int .u64 12] w fun e w' => e = .returned (.tuple #[.agg #[.int .u64 12, .int .u64 7, .int .u64 1], .int .i64 0]) ∧ Below w.heap.size w w'
  c3 : Calls Tryz.prog 17 #[p.v, .int .i64 1, .int .u64 1, .int .u64 13] w fun e w' => e = .returned (.tuple #[.agg #[.int .u64 0, .int .u64 0, .int .u64 0], .int .i64 4]) ∧ Below w.heap.size w w'
  c4 : Calls Tryz.prog 19 #[p.v, .int .i64 1, .int .u64 1, .int .u64 7, .int .u64 1] w fun e w' => e = .returned (.tuple #[.int .u64 12, .int .i64 0]) ∧ Below w.heap.size w w'
  c5 : Calls Tryz.prog 25 #[p.v, .int .i64 1] w fun e w' => ∃ a c, e = .returned (.tuple #[.slice a 2 c, .int .u64 7, .int .u64 12]) ∧ SlOk eU64 w' ⟨a, c, [3, 5]⟩ ∧ Below w.heap.size w w'
  c6 : Calls Tryz.prog 18 #[p.v, .int .i64 1, .int .u64 1] w fun e w' => e = .returned (.int .u64 13) ∧ Below w.heap.size w w'
theorem ex_told {p : PlanR} {w : World} (h : p.d = exampleP) (hp : p.Ok w) : ExTold p w := by
  have hb := small_ex h
  have hs : U64 1 := by simp [U64]
  have a1 := find17 p 1 1 11 w hp hb hs
  have a2 := find17 p 1 1 12 w hp hb hs
  have a3 := find17 p 1 1 13 w hp hb hs
  have a4 := offset19 p 1 1 7 1 w hp hb hs
  have a5 := callsIn_wide.1 (gone25 5 (by decide) p 1 w hp hb)
  have a6 := length18 p 1 1 w hp hb hs
  rw [h] at a1 a2 a3 a4 a5 a6
  rw [ex1] at a1
  rw [ex2] at a2
  rw [ex3] at a3
  rw [ex4] at a4
  rw [ex5] at a5
  rw [ex6] at a6
  exact ⟨a1, a2, a3, a4, a5, a6⟩

set_option maxHeartbeats 2000000 in
set_option maxRecDepth 100000 in
theorem awake14 (w : World) : Calls Tryz.prog 14 #[] w fun e w' => e = .returned (.bool true) ∧ Below w.heap.size w w' := by
  have hex := fun W => example44 W
  have hte := fun (p : PlanR) W (h : p.d = exampleP) (hp : p.Ok W) => ex_told h hp
  go_enter Tryz.func14, Tryz.ntmps14
  go_wp2_with fail
  refine (hex _).mono ?_
  rintro e w1 ⟨p, rfl, hd, hp, hb1⟩
  have HD : Hid _ := hd
  have HP : Aside (p.Ok w1) := hp
  have HB : Aside _ := hb1
  have HT : Aside _ := hte p
  clear hex hte hd hp hb1
  obtain ⟨pv, pn, ⟨ca, cc, cs⟩, ⟨la, lc, ls⟩, ⟨pa, pc, ps⟩⟩ := p
  dsimp only
  go_wp2_with fail
  refine (HT.out _ HD.out (HP.out.mono (b1 _ _))).c1.mono ?_
  rintro e w2 ⟨rfl, hb2⟩
  have P2 := box_mono (heap_top w1 _ _ rfl) hb2
  have B2 := bthen (b1 w1 _) hb2
  obtain ⟨q0, q1, q2, q3, q4, r0, r1, r2, r3, r4⟩ := cells5 P2
  have hz := box_lt P2
  have HP2 : Aside _ := P2
  have HB2 : Aside _ := B2
  clear hb2 P2 B2
  dsimp only
  go_wp2_with fail
  refine (HT.out _ HD.out (HP.out.mono (balloc HB2.out _))).c2.mono ?_
  rintro e w3 ⟨rfl, hb3⟩
  have P3 := box_mono (box_mono HP2.out (b1 _ _)) hb3
  have A3 := box_mono (heap_top w2 _ _ rfl) hb3
  have B3 := bthen (balloc HB2.out _) hb3
  clear q0 q1 q2 q3 q4 r0 r1 r2 r3 r4 hz
  obtain ⟨q0, q1, q2, q3, q4, r0, r1, r2, r3, r4⟩ := cells5 P3
  have hz := box_lt P3
  have HP3 : Aside _ := P3
  have HA3 : Aside _ := A3
  have HB3 : Aside _ := B3
  clear hb3 P3 A3 B3 HP2 HB2
  dsimp only
  go_wp2_with fail
  refine (HT.out _ HD.out (HP.out.mono (balloc HB3.out _))).c3.mono ?_
  rintro e w4 ⟨rfl, hb4⟩
  have P4 := box_mono (box_mono HP3.out (b1 _ _)) hb4
  have A4 := box_mono (box_mono HA3.out (b1 _ _)) hb4
  have C4 := box_mono (heap_top w3 _ _ rfl) hb4
  have B4 := bthen (balloc HB3.out _) hb4
  clear q0 q1 q2 q3 q4 r0 r1 r2 r3 r4 hz
  obtain ⟨q0, q1, q2, q3, q4, r0, r1, r2, r3, r4⟩ := cells5 P4
  have hz := box_lt P4
  have HP4 : Aside _ := P4
  have HA4 : Aside _ := A4
  have HC4 : Aside _ := C4
  have HB4 : Aside _ := B4
  clear hb4 P4 A4 C4 B4 HP3 HA3 HB3
  dsimp only
  go_wp2_with fail
  refine (HT.out _ HD.out (HP.out.mono (balloc HB4.out _))).c4.mono ?_
  rintro e w5 ⟨rfl, hb5⟩
  have P5 := box_mono (box_mono HP4.out (b1 _ _)) hb5
  have A5 := box_mono (box_mono HA4.out (b1 _ _)) hb5
  have C5 := box_mono (box_mono HC4.out (b1 _ _)) hb5
  have B5 := bthen (balloc HB4.out _) hb5
  clear q0 q1 q2 q3 q4 r0 r1 r2 r3 r4 hz
  obtain ⟨q0, q1, q2, q3, q4, r0, r1, r2, r3, r4⟩ := cells5 P5
  have hz := box_lt P5
  have HP5 : Aside _ := P5
  have HA5 : Aside _ := A5
  have HC5 : Aside _ := C5
  have HB5 : Aside _ := B5
  clear hb5 P5 A5 C5 B5 HP4 HA4 HC4 HB4
  dsimp only
  go_wp2_with fail
  refine (HT.out _ HD.out (HP.out.mono HB5.out)).c5.mono ?_
  rintro e w6 ⟨ga, gc, rfl, hg6, hb6⟩
  have P6 := box_mono HP5.out hb6
  have A6 := box_mono HA5.out hb6
  have C6 := box_mono HC5.out hb6
  have B6 := bthen HB5.out hb6
  clear q0 q1 q2 q3 q4 r0 r1 r2 r3 r4 hz
  obtain ⟨q0, q1, q2, q3, q4, r0, r1, r2, r3, r4⟩ := cells5 P6
  have hz := box_lt P6
  have HA6 : Aside _ := A6
  have HC6 : Aside _ := C6
  have HB6 : Aside _ := B6
  have HG6 : Aside _ := hg6
  clear hb6 P6 A6 C6 B6 HP5 HA5 HC5 HB5 hg6
  dsimp only
  go_wp2_with fail
  refine (HT.out _ HD.out (HP.out.mono HB6.out)).c6.mono ?_
  rintro e w7 ⟨rfl, hb7⟩
  have A7 := box_mono HA6.out hb7
  have C7 := box_mono HC6.out hb7
  have B7 := bthen HB6.out hb7
  have G7 := HG6.out.mono hb7
  clear q0 q1 q2 q3 q4 r0 r1 r2 r3 r4 hz
  obtain ⟨a0, a1, a2, s0, s1, s2⟩ := cells3 A7
  obtain ⟨d0, d1, d2, u0, u1, u2⟩ := cells3 C7
  have hz := box_lt C7
  have HB7 : Aside _ := B7
  have HG7 : Aside _ := G7
  clear hb7 A7 C7 B7 HA6 HC6 HB6 HG6 G7
  have n1 := fun W => eql_spot ⟨11, 3, 2⟩ ⟨11, 3, 2⟩ W
  have n2 := fun W => eql_spot ⟨12, 7, 1⟩ ⟨12, 7, 1⟩ W
  have n3 := fun op a b W => guard_spot op a b ⟨11, 3, 2⟩ ⟨11, 3, 2⟩ W
  have n4 := fun op a b W => guard_spot op a b ⟨12, 7, 1⟩ ⟨12, 7, 1⟩ W
  dsimp only at n1 n2 n3 n4 ⊢
  go_wp2_with fail
  refine (same27 ⟨ga, gc, [3, 5]⟩ ⟨some ⟨w7.heap.size, 0, none⟩, 2, [3, 5]⟩ _ (HG7.out.mono (b1 _ _)) (lit_sl (xs := [(3 : Int), 5]) (heap_top w7 _ _ rfl) (by simp [eU64, U64]) (by simp))).mono ?_
  rintro e w8 ⟨rfl, hb8⟩
  simp only [decide_true]
  go_wp2
  go_ret
  exact ⟨rfl, bthen HB.out (bthen (balloc HB7.out _) hb8)⟩
end Go.Proofs.YtdiamknibfamdaaGreat
