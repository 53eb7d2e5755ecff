/- ChainSure's walk: it returns true. -/
import Derived.Test.YtdiamknibfamdaaGreatBack
namespace Go.Proofs.YtdiamknibfamdaaGreat
open Go.RowKit Go.Shelf
attribute [local go_sem ↓] Go.wp_at_zero Go.wp_at_succ

set_option maxHeartbeats 2000000 in
set_option maxRecDepth 100000 in
theorem sure_long (p : PlanR) (ch sure more : Int) (w : World) (hp : p.Ok w) (hl : longB p = true) : Calls Tryz.prog 4 #[p.v, .int .i64 ch, .int .u64 sure, .int .u64 more] w (TrueHere w) := by
  have h13 := long13 p _ (hp.mono (b1 w (.cells #[.int .u64 p.version, .int .u64 p.next, .slice p.channels.a p.channels.xs.length p.channels.c, .slice p.ledgers.a p.ledgers.xs.length p.ledgers.c, .slice p.past.a p.past.xs.length p.past.c] 27 (0, 0))))
  rw [hl] at h13
  clear hp hl
  obtain ⟨pv, pn, ⟨ca, cc, cs⟩, ⟨la, lc, ls⟩, ⟨pa, pc, ps⟩⟩ := p
  dsimp only at *
  go_enter Tryz.func4, Tryz.ntmps4
  go_wp2_with fail
  refine h13.mono ?_
  rintro e w1 ⟨rfl, hb1⟩
  dsimp only
  go_wp2_with fail
  refine (awake14 _).mono ?_
  rintro e w2 ⟨rfl, hb2⟩
  dsimp only
  go_wp2
  go_ret
  exact ⟨rfl, bthen (b1 w _) (bthen hb1 hb2)⟩

set_option maxHeartbeats 2000000 in
set_option maxRecDepth 100000 in
theorem sure_much (p : PlanR) (ch sure more : Int) (w : World) (hp : p.Ok w) (hl : longB p = false) (hs : 1152921504606846976 < sure) : Calls Tryz.prog 4 #[p.v, .int .i64 ch, .int .u64 sure, .int .u64 more] w (TrueHere w) := by
  have h13 := long13 p _ (hp.mono (b1 w (.cells #[.int .u64 p.version, .int .u64 p.next, .slice p.channels.a p.channels.xs.length p.channels.c, .slice p.ledgers.a p.ledgers.xs.length p.ledgers.c, .slice p.past.a p.past.xs.length p.past.c] 27 (0, 0))))
  rw [hl] at h13
  clear hp hl
  obtain ⟨pv, pn, ⟨ca, cc, cs⟩, ⟨la, lc, ls⟩, ⟨pa, pc, ps⟩⟩ := p
  dsimp only at *
  go_enter Tryz.func4, Tryz.ntmps4
  go_wp2_with fail
  refine h13.mono ?_
  rintro e w1 ⟨rfl, hb1⟩
  dsimp only
  go_wp2_with fail
  refine (awake14 _).mono ?_
  rintro e w2 ⟨rfl, hb2⟩
  dsimp only
  go_wp2
  go_ret
  exact ⟨rfl, bthen (b1 w _) (bthen hb1 hb2)⟩

theorem and15 (x : Int) : 0 ≤ bits .and .u64 x 15 ∧ bits .and .u64 x 15 ≤ 15 := by
  unfold bits
  dsimp only
  have h : (BitVec.ofInt IntKind.u64.bits x &&& BitVec.ofInt IntKind.u64.bits 15).toNat ≤ 15 := by
    rw [BitVec.toNat_and]
    exact Nat.le_trans Nat.and_le_right (by decide)
  rw [wrap_u64]
  omega
theorem SlOk.take {α : Type} {E : El α} {w : World} {s : Sl α} (h : SlOk E w s) (n : Nat) : SlOk E w ⟨s.a, s.c, s.xs.take n⟩ :=
  ⟨Nat.le_trans (List.length_take_le' _ _) h.le, h.cap, (fun ha => by obtain ⟨h1, h2⟩ := h.nil ha; exact ⟨by rw [h1]; simp, h2⟩), fun hne => by
    obtain ⟨b, off, ha, hb, hx⟩ := h.at_ (fun h0 => hne (by rw [h0]; simp))
    exact ⟨b, off, ha, hb, fun j x hj => hx j x (by rw [List.getElem?_take] at hj; split at hj; exact hj; cases hj)⟩, fun x hx => h.ok x (List.mem_of_mem_take hx)⟩

set_option maxHeartbeats 4000000 in
set_option maxRecDepth 100000 in
theorem sure_some (p : PlanR) (ch sure more : Int) (w : World) (hp : p.Ok w) (hl : longB p = false) (hs : U64 sure) (hm : sure ≤ 1152921504606846976) : Calls Tryz.prog 4 #[p.v, .int .i64 ch, .int .u64 sure, .int .u64 more] w (TrueHere w) := by
  have hb := small_long hl
  have hn := nums_of hp
  obtain ⟨m, hmm⟩ : ∃ m, bits .and .u64 more 15 = m := ⟨_, rfl⟩
  have h15m := and15 more
  rw [hmm] at h15m
  have hs0 := hs.1
  have hsm : U64 (sure + m) := by unfold U64; omega
  have hpre := spots_more hn ch (show sure ≤ sure + m by omega)
  have hrow := spots_row hn ch (sure + m)
  have h13 := fun W (hW : Below w.heap.size w W) => long13 p W (hp.mono hW)
  have h15a := fun W (hW : Below w.heap.size w W) => all15 p ch sure W (hp.mono hW) hb hs
  have h15b := fun W (hW : Below w.heap.size w W) => all15 p ch (sure + m) W (hp.mono hW) hb hsm
  rw [hl] at h13
  clear hp hl hb hn
  generalize spotsB p.d ch sure = SA at h15a hpre
  generalize spotsB p.d ch (sure + m) = SB at h15b hpre hrow
  have hwm : IntKind.u64.wrap (sure + m) = sure + m := by rw [wrap_u64]; exact Int.emod_eq_of_lt (by omega) (by omega)
  have hgt : ¬ (1152921504606846976 < sure) := by omega
  obtain ⟨pv, pn, ⟨ca, cc, cs⟩, ⟨la, lc, ls⟩, ⟨pa, pc, ps⟩⟩ := p
  have HPRE : Hid _ := hpre
  have HROW : Aside _ := hrow
  clear hpre hrow hs hsm h15m hm
  go_enter Tryz.func4, Tryz.ntmps4
  go_wp2_with fail
  refine (h13 _ (b1 w _)).mono ?_
  rintro e w1 ⟨rfl, hb1⟩
  have P1 := box_mono (heap_top w _ _ rfl) hb1
  have B1 := bthen (b1 w _) hb1
  obtain ⟨q0, q1, q2, q3, q4, r0, r1, r2, r3, r4⟩ := cells5 P1
  have hz := box_lt P1
  have HB1 : Aside _ := B1
  clear hb1 P1 B1 h13
  dsimp only
  go_wp2_with fail
  have hSW : ∀ w', Below w1.heap.size w1 w' → w'.cell? ⟨w.heap.size, 0, none⟩ = some (.int .u64 pv) ∧ w'.cell? ⟨w.heap.size, 1, none⟩ = some (.int .u64 pn) ∧ w'.cell? ⟨w.heap.size, 2, none⟩ = some (.slice ca cs.length cc) ∧ w'.cell? ⟨w.heap.size, 3, none⟩ = some (.slice la ls.length lc) ∧ w'.cell? ⟨w.heap.size, 4, none⟩ = some (.slice pa ps.length pc) := fun w' hW => ⟨(hW.cell (p := ⟨w.heap.size, 0, none⟩) hz).trans q0, (hW.cell (p := ⟨w.heap.size, 1, none⟩) hz).trans q1, (hW.cell (p := ⟨w.heap.size, 2, none⟩) hz).trans q2, (hW.cell (p := ⟨w.heap.size, 3, none⟩) hz).trans q3, (hW.cell (p := ⟨w.heap.size, 4, none⟩) hz).trans q4⟩
  have hS0 := hSW _ (Below.refl _ w1).drew
  clear q0 q1 q2 q3 q4 r0 r1 r2 r3 r4
  go_region_held3 (fun w' => w'.cell? ⟨w.heap.size, 0, none⟩ = some (.int .u64 pv) ∧ w'.cell? ⟨w.heap.size, 1, none⟩ = some (.int .u64 pn) ∧ w'.cell? ⟨w.heap.size, 2, none⟩ = some (.slice ca cs.length cc) ∧ w'.cell? ⟨w.heap.size, 3, none⟩ = some (.slice la ls.length lc) ∧ w'.cell? ⟨w.heap.size, 4, none⟩ = some (.slice pa ps.length pc)) (first | (with_reducible exact hS4) | (with_reducible exact hS3) | (with_reducible exact hS0))
    (first | (go_at_call 15; (with_reducible refine (h15a w1.drew ?_).mono ?_); exact bthen HB1.out (Below.refl _ _).drew; rintro x w2 ⟨a2, c2, rfl, hs2, _, hbb2⟩; have hB2 : Below w1.heap.size w1 w2 := bthen (Below.refl _ _).drew hbb2; have hS3 := hSW _ hB2)
           | (go_at_call 15; (with_reducible refine (h15b w2 ?_).mono ?_); exact bthen HB1.out hB2; rintro x w3 ⟨a3, c3, rfl, hs3, _, hbb3⟩; have hB3 : Below w1.heap.size w1 w3 := bthen hB2 hbb3; have hS4 := hSW _ hB3))
  have SA3 := hs2.mono hbb3
  have SB3 := hs3
  have B3 := bthen HB1.out hB3
  have lA := SA3.le
  have lB := SB3.le
  have cA := SA3.cap
  have cB := SB3.cap
  have nB := SB3.nil
  have hpr : SA <+: SB := HPRE.out
  have hAB : SA.length ≤ SB.length := hpr.length_le
  have htk : SB.take SA.length = SA := (List.prefix_iff_eq_take.1 hpr).symm
  have hz3 : w.heap.size < w3.heap.size := Nat.lt_of_lt_of_le hz hB3.size
  have HTK : Hid _ := htk
  have HA : Aside _ := SA3
  have HB : Aside _ := SB3
  have HB3 : Aside _ := B3
  have hABz : ¬ (SB.length : Int) < (SA.length : Int) := by omega
  have hAc : (SA.length : Int) ≤ (c3 : Int) := by dsimp only at lB; omega
  have hA0 : (0 : Int) ≤ (SA.length : Int) := by omega
  dsimp only at lA lB cA cB
  clear hS0 hS3 hS4 hSW hB2 hB3 hbb2 hbb3 hs2 hs3 SA3 SB3 B3 HPRE hpr htk h15a h15b hz HB1
  cases a3 with
  | none =>
    obtain ⟨h1, h2⟩ := nB rfl
    dsimp only at h1 h2
    subst h1 h2
    have h3 : SA = [] := List.eq_nil_of_length_eq_zero (by simpa using hAB)
    subst h3
    clear lA lB cA cB nB hAB hABz hAc hA0 HTK
    dsimp only [List.length_nil]
    have hst := same20 ⟨a2, c2, []⟩ ⟨none, 0, []⟩ w3 HA.out (SlOk.nil_ _ _)
    dsimp only [List.length_nil] at hst
    rw [decide_eq_true rfl] at hst
    go_wp2_with fail
    refine hst.mono ?_
    rintro e w4 ⟨rfl, hb4⟩
    clear hst
    dsimp only
    go_wp2_with fail
    refine wp_loop_rounds 1 ?_
    rw [rounds_succ]
    go_wp2_with fail
    refine (awake14 _).mono ?_
    rintro e w5 ⟨rfl, hb5⟩
    dsimp only
    go_wp2
    go_ret
    exact ⟨rfl, bthen HB3.out (bthen hb4 hb5)⟩
  | some ad =>
    have hst := same20 ⟨a2, c2, SA⟩ ⟨some ad, c3, SB.take SA.length⟩ w3 HA.out (HB.out.take SA.length)
    rw [HTK.out] at hst
    dsimp only at hst
    rw [decide_eq_true rfl] at hst
    go_wp2_with fail
    refine hst.mono ?_
    rintro e w4 ⟨rfl, hb4⟩
    have S4 := HB.out.mono hb4
    have B4 := bthen HB3.out hb4
    have HS4 : Aside _ := S4
    have HB4 : Aside _ := B4
    clear hst hb4 S4 B4 HA HB HB3 HTK nB hAB hABz hAc hA0 lA cA hz3
    dsimp only
    go_wp2_with fail
    go_loopg [11] SB.length (fun gg s11 wr => ∃ i : Nat, i ≤ SB.length + 1 ∧ 1 ≤ i ∧ SB.length - i ≤ gg ∧ s11 = .int .i64 i ∧ Aside (Below w.heap.size w wr ∧ SlOk eSpot wr ⟨some ad, c3, SB⟩))
    case atStart => exact ⟨1, by omega, by omega, by omega, rfl, HB4.out, HS4.out⟩
    case round =>
      obtain ⟨i, hi, hi1, hg, rfl, A⟩ := hrel
      clear HS4 HB4
      have bd : ∀ m, Below wr.heap.size wr (wr.drewN m) := fun m => ⟨rfl, rfl, rfl, Nat.le_refl _, fun _ _ => rfl⟩
      by_cases hlt : i < SB.length
      · obtain ⟨b1', o1, s1, hx1, hy1, hb1, hat1, hok1⟩ := A.out.2.get (j := i) hlt
        obtain ⟨b0, o0, s0, hx0, hy0, hb0, hat0, _⟩ := A.out.2.get (j := i - 1) (show i - 1 < SB.length by omega)
        obtain ⟨d0, d1, d2⟩ := at_spot hat1
        obtain ⟨e0, e1, e2⟩ := at_spot hat0
        dsimp only at hx1 hx0 hy1 hy0
        simp only [show eSpot.k = 3 from rfl] at d0 d1 d2 e0 e1 e2
        obtain rfl : ad = ⟨b0, o0, none⟩ := by cases hx0; rfl
        cases hx1
        obtain ⟨k, rfl⟩ : ∃ k : Nat, i = k + 1 := ⟨i - 1, by omega⟩
        rw [Nat.add_sub_cancel] at hy0 e0 e1 e2
        have hbh := HROW.out.2 k s0 s1 hy0 hy1
        have HBH : Hid _ := hbh
        have hun : Hid (U64 s1.n) := hok1.2.2
        clear hat1 hat0 hy1 hy0 hx0 hbh hok1
        obtain ⟨so0, sl0, sn0⟩ := s0
        obtain ⟨so1, sl1, sn1⟩ := s1
        dsimp only at d0 d1 d2 e0 e1 e2
        have hwk : IntKind.i64.wrap ((k : Int) + 1 - 1) = (k : Int) := by rw [wrap_i64 (by omega) (by omega)]; omega
        have hk0 : (0 : Int) ≤ (k : Int) := by omega
        have hk1 : (k : Int) < (SB.length : Int) := by omega
        have hk2 : (k : Int) + 1 < (SB.length : Int) := by omega
        have hk3 : ((k : Int) + 1).toNat = k + 1 := by omega
        have hwo : IntKind.u64.wrap (so0 + 1) = so1 := by rw [wrap_addU]; exact HBH.out.1.symm
        have hne : (so1 != so1) = false := by simp
        by_cases hsl : sl0 = sl1
        · subst hsl
          have hwn : IntKind.u64.wrap (sn0 + 1) = sn1 := by
            have h1 := HBH.out.2.1 rfl
            dsimp only at h1
            rw [h1, wrap_u64]
            exact Int.emod_eq_of_lt (h1 ▸ hun.out.1) (h1 ▸ hun.out.2)
          have hn1 : (sn1 != sn1) = false := by simp
          have hn2 : (sl0 == sl0) = true := by simp
          have hn3 : (sl0 != sl0) = false := by simp
          go_wp2_with fail
          go_quiet (fail)
          go_wp2
          go_roundg (SB.length - (k + 1 + 1))
          case measure => omega
          case rel => exact ⟨k + 1 + 1, by omega, by omega, by omega, by go_num, bthen A.out.1 (bd _), A.out.2.mono (bd _)⟩
        · have hn2 : (sl1 == sl0) = false := by simpa using fun h => hsl h.symm
          have hn3 : (sl1 != sl0) = true := by simpa using fun h => hsl h.symm
          have hn1 : sn1 = 1 := HBH.out.2.2 hsl
          subst hn1
          clear hsl
          go_wp2_with fail
          go_quiet (fail)
          go_wp2
          go_roundg (SB.length - (k + 1 + 1))
          case measure => omega
          case rel => exact ⟨k + 1 + 1, by omega, by omega, by omega, by go_num, bthen A.out.1 (bd _), A.out.2.mono (bd _)⟩
      · have hltz : ¬ (i : Int) < (SB.length : Int) := by omega
        by_cases hnil : SB.length = 0
        · have hnz : ((SB.length : Int) == 0) = true := by rw [hnil]; rfl
          have HNIL : Hid _ := hnil
          clear hnil
          go_wp2_with fail
          refine (awake14 _).mono ?_
          rintro e w6 ⟨rfl, hb6⟩
          dsimp only
          go_wp2
          go_ret
          exact ⟨rfl, bthen A.out.1 hb6⟩
        · have hnz : ((SB.length : Int) == 0) = false := by simpa using hnil
          have h0 : (0 : Int) < (SB.length : Int) := by omega
          obtain ⟨b1', o1, s1, hx1, hy1, hb1, hat1, hok1⟩ := A.out.2.get (j := 0) (show 0 < SB.length by omega)
          obtain ⟨d0, d1, d2⟩ := at_spot hat1
          dsimp only at hx1 hy1
          simp only [show eSpot.k = 3 from rfl, Nat.zero_mul, Nat.add_zero] at d0 d1 d2
          obtain rfl : ad = ⟨b1', o1, none⟩ := by cases hx1; rfl
          have hn1 := HROW.out.1 s1 hy1
          obtain ⟨so1, sl1, sn1⟩ := s1
          dsimp only at hn1 d0 d1 d2
          subst hn1
          clear hat1 hy1 hx1 hok1 hnil
          go_wp2_with fail
          refine (awake14 _).mono ?_
          rintro e w6 ⟨rfl, hb6⟩
          dsimp only
          go_wp2
          go_ret
          exact ⟨rfl, bthen A.out.1 hb6⟩

/-- ChainSure returns true, and changes nothing that was there. -/
theorem sure4 (p : PlanR) (ch sure more : Int) (w : World) (hp : p.Ok w) (hs : U64 sure) : Calls Tryz.prog 4 #[p.v, .int .i64 ch, .int .u64 sure, .int .u64 more] w (TrueHere w) := by
  cases hl : longB p with
  | true => exact sure_long p ch sure more w hp hl
  | false =>
    by_cases hm : sure ≤ 1152921504606846976
    · exact sure_some p ch sure more w hp hl hs hm
    · exact sure_much p ch sure more w hp hl (by omega)
end Go.Proofs.YtdiamknibfamdaaGreat
