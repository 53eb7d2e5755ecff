/- ChainBack's walk, where the channel is there. -/
import Derived.Test.YtdiamknibfamdaaGreatBack
namespace Go.Proofs.YtdiamknibfamdaaGreat
open Go.RowKit Go.Shelf
attribute [local go_sem ↓] Go.wp_at_zero Go.wp_at_succ

set_option maxHeartbeats 4000000 in
set_option maxRecDepth 100000 in
theorem back_there (p : PlanR) (ch sure : Int) (w : World) (hp : p.Ok w) (hl : longB p = false) (hs : U64 sure) (hh : chainHasB p.d ch = true) : Calls Tryz.prog 3 #[p.v, .int .i64 ch, .int .u64 sure] w (TrueHere w) := by
  have hb := small_long hl
  have hn := nums_of hp
  have h13 := fun W (hW : Below w.heap.size w W) => long13 p W (hp.mono hW)
  have h15 := fun W (hW : Below w.heap.size w W) => all15 p ch sure W (hp.mono hW) hb hs
  have h16 := fun W (hW : Below w.heap.size w W) => may16 p W (hp.mono hW) hb
  have h17 := fun W (hW : Below w.heap.size w W) o => find17 p ch sure o W (hp.mono hW) hb hs
  have h18 := fun W (hW : Below w.heap.size w W) => length18 p ch sure W (hp.mono hW) hb hs
  have h19 := fun W (hW : Below w.heap.size w W) l n => offset19 p ch sure l n W (hp.mono hW) hb hs
  have hback := fun i s hi => spots_back hn sure hh (i := i) (s := s) hi
  obtain ⟨k, c, b, off, rfl, hkl, hc, ha, hbk, hat, hok, hco, hmay⟩ := chan_there hp hh
  have e2 : lengthB p.d ((k : Int) + 1) sure = addU c.first (spotsB p.d ((k : Int) + 1) sure).length := by unfold lengthB; rw [hh, if_pos rfl, hco]; rfl
  rw [hco] at hback
  have hcf : c.d.first = c.first := rfl
  rw [hcf] at hback
  rw [hl] at h13
  rw [hmay] at h16
  rw [e2] at h18
  have hcap := hp.channels.cap
  have hle := hp.channels.le
  have hcell := (at_channel hat).2.2.2.2.1
  have hf17 : ∀ W (_ : Below w.heap.size w W) (i : Nat) (s : Spot), (spotsB p.d ((k : Int) + 1) sure)[i]? = some s → Calls Tryz.prog 17 #[p.v, .int .i64 ((k : Int) + 1), .int .u64 sure, .int .u64 (addU c.first i)] W fun e w' => e = .returned (.tuple #[s.v, .int .i64 0]) ∧ Below W.heap.size W w' := fun W hW i s hi => by
    have h1 := h17 W hW (addU c.first i)
    rw [(hback i s hi).2.1] at h1
    exact h1
  have hf19 : ∀ W (_ : Below w.heap.size w W) (i : Nat) (s : Spot), (spotsB p.d ((k : Int) + 1) sure)[i]? = some s → Calls Tryz.prog 19 #[p.v, .int .i64 ((k : Int) + 1), .int .u64 sure, .int .u64 s.ledger, .int .u64 s.n] W fun e w' => e = .returned (.tuple #[.int .u64 (addU c.first i), .int .i64 0]) ∧ Below W.heap.size W w' := fun W hW i s hi => by
    have h1 := h19 W hW s.ledger s.n
    rw [(hback i s hi).2.2] at h1
    dsimp only at h1
    rw [(hback i s hi).1] at h1
    exact h1
  have hoff : ∀ (i : Nat) (s : Spot), (spotsB p.d ((k : Int) + 1) sure)[i]? = some s → s.offset = addU c.first i := fun i s hi => (hback i s hi).1
  clear h17 h19 hback hn hp hb hl hs hh hmay hco e2 hc hat hok hcf
  generalize spotsB p.d ((k : Int) + 1) sure = SS at h15 h18 hf17 hf19 hoff
  generalize c.first = fi at *
  clear c
  have hk0 : (0 : Int) ≤ (k : Int) + 1 - 1 := by omega
  have hk2 : (k : Int) + 1 - 1 < (p.channels.xs.length : Int) := by omega
  have hk3 : ((k : Int) + 1 - 1).toNat = k := by omega
  have hk4 : (k : Int) < (p.channels.xs.length : Int) := by omega
  have hk5 : (0 : Int) ≤ (k : Int) := by omega
  have hk6 : ¬ ((k : Int) + 1 < 1) := by omega
  have hk7 : ¬ ((p.channels.xs.length : Int) < (k : Int) + 1) := by omega
  have hw1 : IntKind.i64.wrap ((k : Int) + 1 - 1) = (k : Int) := by rw [wrap_i64 (by omega) (by omega)]; omega
  have hw2 : IntKind.i64.wrap (k : Int) = (k : Int) := wrap_i64 (by omega) (by omega)
  have hd1 : decide ((k : Int) + 1 < 1) = false := decide_eq_false hk6
  have hd2 : decide ((p.channels.xs.length : Int) < (k : Int) + 1) = false := decide_eq_false hk7
  obtain ⟨pv, pn, ⟨ca, cc, cs⟩, ⟨la, lc, ls⟩, ⟨pa, pc, ps⟩⟩ := p
  dsimp only at *
  subst ha
  go_enter Tryz.func3, Tryz.ntmps3
  go_wp2_with fail
  refine (h13 _ (b1 w _)).mono ?_
  rintro e w1 ⟨rfl, hb1⟩
  have P1 := box_mono (heap_top w _ _ rfl) hb1
  have B1 := bthen (b1 w _) hb1
  obtain ⟨q0, q1, q2, q3, q4, r0, r1, r2, r3, r4⟩ := cells5 P1
  have hz := box_lt P1
  have HP1 : Aside _ := P1
  have HB1 : Aside _ := B1
  clear hb1 P1 B1 h13
  dsimp only
  go_wp2_with fail
  refine (h15 _ HB1.out).mono ?_
  rintro e w2 ⟨sa, sc, rfl, hs2, _, hb2⟩
  have P2 := box_mono HP1.out hb2
  have B2 := bthen HB1.out hb2
  clear q0 q1 q2 q3 q4 r0 r1 r2 r3 r4 hz
  obtain ⟨q0, q1, q2, q3, q4, r0, r1, r2, r3, r4⟩ := cells5 P2
  have hz := box_lt P2
  have HP2 : Aside _ := P2
  have HB2 : Aside _ := B2
  have HS2 : Aside _ := hs2
  clear hb2 P2 B2 h15 HP1 HB1 hs2
  dsimp only
  go_wp2_with fail
  refine (h16 _ HB2.out).mono ?_
  rintro e w3 ⟨rfl, hb3⟩
  have P3 := box_mono HP2.out hb3
  have B3 := bthen HB2.out hb3
  have S3 := HS2.out.mono hb3
  have n4 := (B3.cell (p := ⟨b, off + k * 9 + 4, none⟩) hbk).trans hcell
  clear q0 q1 q2 q3 q4 r0 r1 r2 r3 r4 hz
  obtain ⟨q0, q1, q2, q3, q4, r0, r1, r2, r3, r4⟩ := cells5 P3
  have hz := box_lt P3
  have HP3 : Aside _ := P3
  have HB3 : Aside _ := B3
  have HS3 : Aside _ := S3
  clear hb3 P3 B3 h16 HP2 HB2 HS2 S3
  dsimp only
  go_wp2_with fail
  refine (h18 _ HB3.out).mono ?_
  rintro e w4 ⟨rfl, hb4⟩
  have P4 := box_mono HP3.out hb4
  have B4 := bthen HB3.out hb4
  have S4 := HS3.out.mono hb4
  have hsl := S4.le
  have hsc := S4.cap
  dsimp only at hsl hsc
  clear q0 q1 q2 q3 q4 r0 r1 r2 r3 r4 hz n4
  obtain ⟨q0, q1, q2, q3, q4, r0, r1, r2, r3, r4⟩ := cells5 P4
  have hz := box_lt P4
  have HP4 : Aside _ := P4
  have HB4 : Aside _ := B4
  have HS4 : Aside _ := S4
  clear hb4 P4 B4 h18 HP3 HB3 HS3 S4
  have hne : (addU fi (SS.length : Int) != addU fi (SS.length : Int)) = false := by simp
  have hwl : IntKind.u64.wrap (SS.length : Int) = (SS.length : Int) := by rw [wrap_u64]; exact Int.emod_eq_of_lt (by omega) (by omega)
  have hwa : IntKind.u64.wrap (fi + (SS.length : Int)) = addU fi (SS.length : Int) := wrap_addU _ _
  dsimp only
  go_wp2_with fail
  clear q0 q1 q2 q3 q4 r0 r1 r2 r3 r4 hz hne hwl hwa
  go_loopg [11] SS.length (fun gg s11 wr => ∃ i : Nat, i ≤ SS.length ∧ SS.length - i ≤ gg ∧ s11 = .int .i64 i ∧ Aside (Below w.heap.size w wr ∧ wr.heap[w.heap.size]? = some (.cells #[.int .u64 pv, .int .u64 pn, .slice (some ⟨b, off, none⟩) cs.length cc, .slice la ls.length lc, .slice pa ps.length pc] 27 (0, 0)) ∧ SlOk eSpot wr ⟨sa, sc, SS⟩))
  case atStart => exact ⟨0, Nat.zero_le _, by omega, rfl, HB4.out, HP4.out, HS4.out⟩
  case round =>
    obtain ⟨i, hi, hg, rfl, A⟩ := hrel
    clear HP4 HB4 HS4
    by_cases hlt : i < SS.length
    · obtain ⟨bs, os, s, has, hys, hbs, hats, _⟩ := A.out.2.2.get (j := i) hlt
      obtain ⟨s0, s1, s2⟩ := at_spot hats
      dsimp only at has hys
      simp only [show eSpot.k = 3 from rfl] at s0 s1 s2
      have hltz : (i : Int) < (SS.length : Int) := by omega
      have hc17 := hf17 _ A.out.1 i s hys
      have hc19 := fun W (hW : Below wr.heap.size wr W) => hf19 W (bthen A.out.1 hW) i s hys
      have hso := hoff i s hys
      clear hf17 hf19 hoff hats hys
      subst has
      obtain ⟨so, sl, sn⟩ := s
      dsimp only at *
      subst hso
      have hwi : IntKind.u64.wrap (i : Int) = (i : Int) := by rw [wrap_u64]; exact Int.emod_eq_of_lt (by omega) (by omega)
      have hwa : IntKind.u64.wrap (fi + (i : Int)) = addU fi (i : Int) := wrap_addU _ _
      obtain ⟨q0, q1, q2, q3, q4, r0, r1, r2, r3, r4⟩ := cells5 A.out.2.1
      have hz := box_lt A.out.2.1
      go_wp2_with fail
      refine hc17.mono ?_
      rintro e w5 ⟨rfl, hb5⟩
      clear hc17
      have P5 := box_mono A.out.2.1 hb5
      have n0 := (hb5.cell (p := ⟨bs, os + i * 3, none⟩) hbs).trans s0
      have n1 := (hb5.cell (p := ⟨bs, os + i * 3 + 1, none⟩) hbs).trans s1
      have n2 := (hb5.cell (p := ⟨bs, os + i * 3 + 2, none⟩) hbs).trans s2
      clear q0 q1 q2 q3 q4 r0 r1 r2 r3 r4 hz s0 s1 s2
      dsimp only
      go_wp2_with fail
      have hz5 := box_lt P5
      have hX := heap_top w5 (.cells #[.int .u64 (addU fi (i : Int)), .int .u64 sl, .int .u64 sn] 33) _ rfl
      have P6 := box_mono P5 (b1 w5 (.cells #[.int .u64 (addU fi (i : Int)), .int .u64 sl, .int .u64 sn] 33))
      have hb6 := balloc hb5 (.cells #[.int .u64 (addU fi (i : Int)), .int .u64 sl, .int .u64 sn] 33)
      obtain ⟨w6, hw6⟩ : ∃ w6, w5.alloc (.cells #[.int .u64 (addU fi (i : Int)), .int .u64 sl, .int .u64 sn] 33) = w6 := ⟨_, rfl⟩
      have m0 := ((b1 w5 (.cells #[.int .u64 (addU fi (i : Int)), .int .u64 sl, .int .u64 sn] 33)).cell (p := ⟨bs, os + i * 3, none⟩) (blt hb5 hbs)).trans n0
      have m1 := ((b1 w5 (.cells #[.int .u64 (addU fi (i : Int)), .int .u64 sl, .int .u64 sn] 33)).cell (p := ⟨bs, os + i * 3 + 1, none⟩) (blt hb5 hbs)).trans n1
      have m2 := ((b1 w5 (.cells #[.int .u64 (addU fi (i : Int)), .int .u64 sl, .int .u64 sn] 33)).cell (p := ⟨bs, os + i * 3 + 2, none⟩) (blt hb5 hbs)).trans n2
      rw [hw6] at hX P6 hb6 m0 m1 m2 ⊢
      have hbs6 := blt hb6 hbs
      clear hw6 n0 n1 n2 P5 hz5
      obtain ⟨q0, q1, q2, q3, q4, -, -, -, -, -⟩ := cells5 P6
      have hz := box_lt P6
      have hSW : ∀ w', Below w6.heap.size w6 w' → w'.cell? ⟨w.heap.size, 0, none⟩ = some (.int .u64 pv) ∧ w'.cell? ⟨w.heap.size, 1, none⟩ = some (.int .u64 pn) ∧ w'.cell? ⟨w.heap.size, 2, none⟩ = some (.slice (some ⟨b, off, none⟩) cs.length cc) ∧ w'.cell? ⟨w.heap.size, 3, none⟩ = some (.slice la ls.length lc) ∧ w'.cell? ⟨w.heap.size, 4, none⟩ = some (.slice pa ps.length pc) ∧ w'.cell? ⟨bs, os + i * 3 + 1, none⟩ = some (.int .u64 sl) ∧ w'.cell? ⟨bs, os + i * 3 + 2, none⟩ = some (.int .u64 sn) := fun w' hW => ⟨(hW.cell (p := ⟨w.heap.size, 0, none⟩) hz).trans q0, (hW.cell (p := ⟨w.heap.size, 1, none⟩) hz).trans q1, (hW.cell (p := ⟨w.heap.size, 2, none⟩) hz).trans q2, (hW.cell (p := ⟨w.heap.size, 3, none⟩) hz).trans q3, (hW.cell (p := ⟨w.heap.size, 4, none⟩) hz).trans q4, (hW.cell (p := ⟨bs, os + i * 3 + 1, none⟩) hbs6).trans m1, (hW.cell (p := ⟨bs, os + i * 3 + 2, none⟩) hbs6).trans m2⟩
      have hS0 := hSW _ (Below.refl _ w6).drew
      have H6 : Aside _ := hb6
      have HX : Aside _ := hX
      have HP6 : Aside _ := P6
      have HM0 : Aside _ := m0
      clear hb5 hb6 hX P6 m0 hz q0 q1 q2 q3 q4 m1 m2
      go_region_held3 (fun w' => w'.cell? ⟨w.heap.size, 0, none⟩ = some (.int .u64 pv) ∧ w'.cell? ⟨w.heap.size, 1, none⟩ = some (.int .u64 pn) ∧ w'.cell? ⟨w.heap.size, 2, none⟩ = some (.slice (some ⟨b, off, none⟩) cs.length cc) ∧ w'.cell? ⟨w.heap.size, 3, none⟩ = some (.slice la ls.length lc) ∧ w'.cell? ⟨w.heap.size, 4, none⟩ = some (.slice pa ps.length pc) ∧ w'.cell? ⟨bs, os + i * 3 + 1, none⟩ = some (.int .u64 sl) ∧ w'.cell? ⟨bs, os + i * 3 + 2, none⟩ = some (.int .u64 sn)) (first | (with_reducible exact hS3) | (with_reducible exact hS0)) (first | (go_at_call 19; (with_reducible refine (hc19 w6.drew ?_).mono ?_); exact bthen H6.out (Below.refl _ _).drew; rintro x w7 ⟨rfl, hb7⟩; have hB7 : Below w6.heap.size w6 w7 := bthen (Below.refl _ _).drew hb7; have hS3 := hSW _ hB7))
      have hb8 := bthen H6.out hB7
      have A8 := bthen A.out.1 hb8
      have P8 := box_mono HP6.out hB7
      have X8 := box_mono HX.out hB7
      have S8 := A.out.2.2.mono hb8
      have m0 := (hB7.cell (p := ⟨bs, os + i * 3, none⟩) hbs6).trans HM0.out
      obtain ⟨-, -, -, -, -, m1, m2⟩ := hS3
      obtain ⟨x0, x1, x2, -, -, -⟩ := cells3 X8
      have hq : ∀ W, (binOp .neq 33 (Spot.v ⟨addU fi (i : Int), sl, sn⟩) (Spot.v ⟨addU fi (i : Int), sl, sn⟩)).run Tryz.prog W = .ok (.bool false) W := fun W => by rw [neq_spot]; simp
      have hq2 := fun op a b W => guard_spot op a b ⟨addU fi (i : Int), sl, sn⟩ ⟨addU fi (i : Int), sl, sn⟩ W
      have HA8 : Aside _ := A8
      have HP8 : Aside _ := P8
      have HS8 : Aside _ := S8
      clear hS0 hSW hc19 hb7 hB7 hb8 A8 P8 X8 S8
      have hnn : (addU fi (i : Int) != addU fi (i : Int)) = false := by simp
      have hz8 := box_lt HP8.out
      go_wp2_with fail
      go_quiet (fail)
      go_wp2
      have bd : ∀ m, Below w7.heap.size w7 (w7.drewN m) := fun m => ⟨rfl, rfl, rfl, Nat.le_refl _, fun _ _ => rfl⟩
      go_roundg (SS.length - (i + 1))
      case measure => omega
      case rel => exact ⟨i + 1, by omega, by omega, by go_num, bthen HA8.out (bd _), box_mono HP8.out (bd _), HS8.out.mono (bd _)⟩
    · have hltz : ¬ (i : Int) < (SS.length : Int) := by omega
      clear hf17 hf19 hoff
      go_wp2_with fail
      refine (awake14 _).mono ?_
      rintro e w6 ⟨rfl, hb6⟩
      dsimp only
      go_wp2
      go_ret
      exact ⟨rfl, bthen A.out.1 hb6⟩
/-- ChainBack returns true, and changes nothing that was there. -/
theorem back3 (p : PlanR) (ch sure : Int) (w : World) (hp : p.Ok w) (hs : U64 sure) : Calls Tryz.prog 3 #[p.v, .int .i64 ch, .int .u64 sure] w (TrueHere w) := by
  cases hl : longB p with
  | true => exact back_long p ch sure w hp hl
  | false =>
    cases hh : chainHasB p.d ch with
    | false => exact back_none p ch sure w hp hl hs hh
    | true => exact back_there p ch sure w hp hl hs hh
end Go.Proofs.YtdiamknibfamdaaGreat
