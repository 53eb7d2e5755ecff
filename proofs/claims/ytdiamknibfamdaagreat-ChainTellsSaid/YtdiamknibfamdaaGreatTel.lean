/- ChainTells' walk: it returns true. -/
import Derived.Test.YtdiamknibfamdaaGreatRgD
import Derived.Test.YtdiamknibfamdaaGreatRgK
import Derived.Test.YtdiamknibfamdaaGreatBack
namespace Go.Proofs.YtdiamknibfamdaaGreat
open Go.RowKit Go.Shelf
attribute [local go_sem ↓] Go.wp_at_zero Go.wp_at_succ

set_option maxHeartbeats 2000000 in
set_option maxRecDepth 100000 in
theorem tells_long (p : PlanR) (ch sure o l n : Int) (w : World) (hp : p.Ok w) (hl : longB p = true) : Calls Tryz.prog 5 #[p.v, .int .i64 ch, .int .u64 sure, .int .u64 o, .int .u64 l, .int .u64 n] w (TrueHere w) := by
  have h13 := long13 p _ (hp.mono (b1 w (.cells #[.int .u64 p.version, .int .u64 p.next, .slice p.channels.a p.channels.xs.length p.channels.c, .slice p.ledgers.a p.ledgers.xs.length p.ledgers.c, .slice p.past.a p.past.xs.length p.past.c] 27 (0, 0))))
  rw [hl] at h13
  clear hp hl
  obtain ⟨pv, pn, ⟨ca, cc, cs⟩, ⟨la, lc, ls⟩, ⟨pa, pc, ps⟩⟩ := p
  dsimp only at *
  go_enter Tryz.func5, Tryz.ntmps5
  go_wp2_with fail
  refine h13.mono ?_
  rintro e w1 ⟨rfl, hb1⟩
  dsimp only
  go_wp2_with fail
  refine (awake14 _).mono ?_
  rintro e w2 ⟨rfl, hb2⟩
  dsimp only
  go_wp2
  go_ret
  exact ⟨rfl, bthen (b1 w _) (bthen hb1 hb2)⟩

set_option maxHeartbeats 8000000 in
set_option maxRecDepth 100000 in
theorem tells_some (p : PlanR) (ch sure o l n : Int) (w : World) (hp : p.Ok w) (hl : longB p = false) (hs : U64 sure) (ho : U64 o) : Calls Tryz.prog 5 #[p.v, .int .i64 ch, .int .u64 sure, .int .u64 o, .int .u64 l, .int .u64 n] w (TrueHere w) := by
  have hb := small_long hl
  have h13 := fun W (hW : Below w.heap.size w W) => long13 p W (hp.mono hW)
  have h17 := fun W (hW : Below w.heap.size w W) => find17 p ch sure o W (hp.mono hW) hb hs
  have h21 := fun W (hW : Below w.heap.size w W) => refFind21 p ch sure o W (hp.mono hW) hb hs ho
  have h19 := fun W (hW : Below w.heap.size w W) => offset19 p ch sure l n W (hp.mono hW) hb hs
  have h22 := fun W (hW : Below w.heap.size w W) => refOffset22 p ch sure l n W (hp.mono hW) hb hs
  have h18 := fun W (hW : Below w.heap.size w W) => length18 p ch sure W (hp.mono hW) hb hs
  have h23 := fun W (hW : Below w.heap.size w W) => refLength23 p ch sure W (hp.mono hW) hb hs
  have h15 := fun W (hW : Below w.heap.size w W) => all15 p ch sure W (hp.mono hW) hb hs
  have h24 := fun W (hW : Below w.heap.size w W) => refAll24 p ch sure W (hp.mono hW) hb hs
  have h25 := fun W (hW : Below w.heap.size w W) => callsIn_wide.1 (gone25 5 (by decide) p ch W (hp.mono hW) hb)
  have h26 := fun W (hW : Below w.heap.size w W) => refGone26 p ch W (hp.mono hW) hb
  have h28 := fun W (hW : Below w.heap.size w W) => keep28 p W (hp.mono hW) hb
  have h29 := fun W (hW : Below w.heap.size w W) => refKeep29 p W (hp.mono hW) hb
  rw [hl] at h13
  generalize oneB p.d ch sure (fun x => decide (x.offset = o)) = R1 at h17 h21
  generalize oneB p.d ch sure (fun x => decide (x.ledger = l) && decide (x.n = n)) = R2 at h19 h22
  generalize lengthB p.d ch sure = LN at h18 h23
  generalize spotsB p.d ch sure = SS at h15 h24
  generalize goneB p.d ch = GG at h25 h26
  generalize keepB p.d = KK at h28 h29
  have H18 : Aside _ := h18
  have H23 : Aside _ := h23
  have H15 : Aside _ := h15
  have H24 : Aside _ := h24
  have H25 : Aside _ := h25
  have H26 : Aside _ := h26
  have H28 : Aside _ := h28
  have H29 : Aside _ := h29
  clear hp hb hl hs ho h18 h23 h15 h24 h25 h26 h28 h29
  obtain ⟨⟨r1, r2, r3⟩, re⟩ := R1
  obtain ⟨⟨m1, m2, m3⟩, me⟩ := R2
  obtain ⟨gg, g2, g3⟩ := GG
  obtain ⟨pv, pn, ⟨ca, cc, cs⟩, ⟨la, lc, ls⟩, ⟨pa, pc, ps⟩⟩ := p
  dsimp only at *
  go_enter Tryz.func5, Tryz.ntmps5
  go_wp2_with fail
  refine (h13 _ (b1 w _)).mono ?_
  rintro e w1 ⟨rfl, hb1⟩
  have HP1 : Aside _ := box_mono (heap_top w _ _ rfl) hb1
  have HB1 : Aside (Below w.heap.size w w1) := bthen (b1 w _) hb1
  obtain ⟨q0, q1, q2, q3, q4, -, -, -, -, -⟩ := cells5 HP1.out
  have hz := box_lt HP1.out
  clear hb1 h13
  dsimp only
  go_wp2_with fail
  refine (h17 _ HB1.out).mono ?_
  rintro e w2 ⟨rfl, hb2⟩
  have HP2 : Aside _ := box_mono (box_mono HP1.out hb2) (b1 w2 (.cells #[.int .u64 r1, .int .u64 r2, .int .u64 r3] 33))
  have HA2 : Aside _ := heap_top w2 (.cells #[.int .u64 r1, .int .u64 r2, .int .u64 r3] 33) _ rfl
  have HB2 : Aside (Below w.heap.size w (w2.alloc (.cells #[.int .u64 r1, .int .u64 r2, .int .u64 r3] 33))) := balloc (bthen HB1.out hb2) _
  have hP2 := box_mono HP1.out hb2
  clear q0 q1 q2 q3 q4 h17
  obtain ⟨q0, q1, q2, q3, q4, -, -, -, -, -⟩ := cells5 hP2
  have hz := box_lt hP2
  clear hb2 hP2
  dsimp only
  go_wp2_with fail
  obtain ⟨na, hna⟩ : ∃ na, w2.heap.size = na := ⟨_, rfl⟩
  have hwa : w.heap.size < na := by omega
  clear q0 q1 q2 q3 q4 hz
  generalize w2.alloc (.cells #[.int .u64 r1, .int .u64 r2, .int .u64 r3] 33) = v2 at HP2 HA2 HB2 ⊢
  rw [hna] at HA2 ⊢
  clear hna
  refine (h21 _ HB2.out).mono ?_
  rintro e w3 ⟨rfl, hb3⟩
  have hP3 := box_mono HP2.out hb3
  have HP3 : Aside _ := box_mono hP3 (b1 w3 (.cells #[.int .u64 r1, .int .u64 r2, .int .u64 r3] 33))
  have HA3 : Aside _ := box_mono (box_mono HA2.out hb3) (b1 w3 (.cells #[.int .u64 r1, .int .u64 r2, .int .u64 r3] 33))
  have HC3 : Aside _ := heap_top w3 (.cells #[.int .u64 r1, .int .u64 r2, .int .u64 r3] 33) _ rfl
  have HB3 : Aside (Below w.heap.size w (w3.alloc (.cells #[.int .u64 r1, .int .u64 r2, .int .u64 r3] 33))) := balloc (bthen HB2.out hb3) _
  obtain ⟨q0, q1, q2, q3, q4, -, -, -, -, -⟩ := cells5 hP3
  have hz := box_lt hP3
  clear hb3 h21 hP3
  dsimp only
  go_wp2_with fail
  obtain ⟨nc, hnc⟩ : ∃ nc, w3.heap.size = nc := ⟨_, rfl⟩
  clear q0 q1 q2 q3 q4 hz
  generalize w3.alloc (.cells #[.int .u64 r1, .int .u64 r2, .int .u64 r3] 33) = v3 at HP3 HA3 HC3 HB3 ⊢
  rw [hnc] at HC3 ⊢
  clear hnc
  refine (h19 _ HB3.out).mono ?_
  rintro e w4 ⟨rfl, hb4⟩
  have HP4 : Aside _ := box_mono HP3.out hb4
  have HA4 : Aside _ := box_mono HA3.out hb4
  have HC4 : Aside _ := box_mono HC3.out hb4
  have HB4 : Aside (Below w.heap.size w w4) := bthen HB3.out hb4
  obtain ⟨q0, q1, q2, q3, q4, -, -, -, -, -⟩ := cells5 HP4.out
  clear hb4 h19
  dsimp only
  go_wp2_with fail
  refine (h22 _ HB4.out).mono ?_
  rintro e w5 ⟨rfl, hb5⟩
  have HP5 : Aside _ := box_mono HP4.out hb5
  have HA5 : Aside _ := box_mono HA4.out hb5
  have HC5 : Aside _ := box_mono HC4.out hb5
  have HB5 : Aside (Below w.heap.size w w5) := bthen HB4.out hb5
  clear q0 q1 q2 q3 q4 hb5 h22
  have hzP := box_lt HP5.out
  have hzA := box_lt HA5.out
  have hzC := box_lt HC5.out
  obtain ⟨q0, q1, q2, q3, q4, -, -, -, -, -⟩ := cells5 HP5.out
  obtain ⟨x0, x1, x2, -, -, -⟩ := cells3 HA5.out
  obtain ⟨y0, y1, y2, -, -, -⟩ := cells3 HC5.out
  dsimp only
  go_wp2_with fail
  have hSW : ∀ w', Below w5.heap.size w5 w' → w'.cell? ⟨w.heap.size, 0, none⟩ = some (.int .u64 pv) ∧ w'.cell? ⟨w.heap.size, 1, none⟩ = some (.int .u64 pn) ∧ w'.cell? ⟨w.heap.size, 2, none⟩ = some (.slice ca cs.length cc) ∧ w'.cell? ⟨w.heap.size, 3, none⟩ = some (.slice la ls.length lc) ∧ w'.cell? ⟨w.heap.size, 4, none⟩ = some (.slice pa ps.length pc) ∧ w'.cell? ⟨na, 0, none⟩ = some (.int .u64 r1) ∧ w'.cell? ⟨na, 1, none⟩ = some (.int .u64 r2) ∧ w'.cell? ⟨na, 2, none⟩ = some (.int .u64 r3) ∧ w'.cell? ⟨nc, 0, none⟩ = some (.int .u64 r1) ∧ w'.cell? ⟨nc, 1, none⟩ = some (.int .u64 r2) ∧ w'.cell? ⟨nc, 2, none⟩ = some (.int .u64 r3) :=
    fun w' hW => ⟨(hW.cell (p := ⟨w.heap.size, 0, none⟩) hzP).trans q0, (hW.cell (p := ⟨w.heap.size, 1, none⟩) hzP).trans q1, (hW.cell (p := ⟨w.heap.size, 2, none⟩) hzP).trans q2, (hW.cell (p := ⟨w.heap.size, 3, none⟩) hzP).trans q3, (hW.cell (p := ⟨w.heap.size, 4, none⟩) hzP).trans q4,
      (hW.cell (p := ⟨na, 0, none⟩) hzA).trans x0, (hW.cell (p := ⟨na, 1, none⟩) hzA).trans x1, (hW.cell (p := ⟨na, 2, none⟩) hzA).trans x2, (hW.cell (p := ⟨nc, 0, none⟩) hzC).trans y0, (hW.cell (p := ⟨nc, 1, none⟩) hzC).trans y1, (hW.cell (p := ⟨nc, 2, none⟩) hzC).trans y2⟩
  have hS0 := hSW _ (Below.refl _ w5).drew
  have n1 : ∀ W, (binOp .neq 33 (Spot.v ⟨r1, r2, r3⟩) (Spot.v ⟨r1, r2, r3⟩)).run Tryz.prog W = .ok (.bool false) W := fun W => by rw [neq_spot]; simp
  have n2 := fun op a b W => guard_spot op a b ⟨r1, r2, r3⟩ ⟨r1, r2, r3⟩ W
  have b1' : (re != re) = false := by simp
  have b2' : (m1 != m1) = false := by simp
  have b3' : (me != me) = false := by simp
  have b4' : (LN != LN) = false := by simp
  dsimp only [Spot.v] at n1 n2
  clear q0 q1 q2 q3 q4 x0 x1 x2 y0 y1 y2
  go_region_held3 (fun w' => w'.cell? ⟨w.heap.size, 0, none⟩ = some (.int .u64 pv) ∧ w'.cell? ⟨w.heap.size, 1, none⟩ = some (.int .u64 pn) ∧ w'.cell? ⟨w.heap.size, 2, none⟩ = some (.slice ca cs.length cc) ∧ w'.cell? ⟨w.heap.size, 3, none⟩ = some (.slice la ls.length lc) ∧ w'.cell? ⟨w.heap.size, 4, none⟩ = some (.slice pa ps.length pc) ∧ w'.cell? ⟨na, 0, none⟩ = some (.int .u64 r1) ∧ w'.cell? ⟨na, 1, none⟩ = some (.int .u64 r2) ∧ w'.cell? ⟨na, 2, none⟩ = some (.int .u64 r3) ∧ w'.cell? ⟨nc, 0, none⟩ = some (.int .u64 r1) ∧ w'.cell? ⟨nc, 1, none⟩ = some (.int .u64 r2) ∧ w'.cell? ⟨nc, 2, none⟩ = some (.int .u64 r3))
    (first | (with_reducible exact hS10) | (with_reducible exact hS9) | (with_reducible exact hS8) | (with_reducible exact hS7) | (with_reducible exact hS6) | (with_reducible exact hS0))
    (first
      | (go_at_call 18; (with_reducible refine (H18.out w5.drew ?_).mono ?_); exact bthen HB5.out (Below.refl _ _).drew; rintro x w6 ⟨rfl, hb6⟩; have hB6 : Below w5.heap.size w5 w6 := bthen (Below.refl _ _).drew hb6; have hS6 := hSW _ hB6)
      | (go_at_call 23; (with_reducible refine (H23.out w6 ?_).mono ?_); exact bthen HB5.out hB6; rintro x w7 ⟨rfl, hb7⟩; have hB7 : Below w5.heap.size w5 w7 := bthen hB6 hb7; have hS7 := hSW _ hB7)
      | (go_at_call 15; (with_reducible refine (H15.out w7 ?_).mono ?_); exact bthen HB5.out hB7; rintro x w8 ⟨a8, c8, rfl, hs8, _, hb8⟩; have hB8 : Below w5.heap.size w5 w8 := bthen hB7 hb8; have hS8 := hSW _ hB8)
      | (go_at_call 24; (with_reducible refine (H24.out w8 ?_).mono ?_); exact bthen HB5.out hB8; rintro x w9 ⟨a9, c9, rfl, hs9, _, hb9⟩; have hB9 : Below w5.heap.size w5 w9 := bthen hB8 hb9; have hS9 := hSW _ hB9)
      | (go_at_call 20; (with_reducible refine (same20 ⟨a8, c8, SS⟩ ⟨a9, c9, SS⟩ w9 (hs8.mono hb9) hs9).mono ?_); rintro x w10 ⟨rfl, hb10⟩; have hB10 : Below w5.heap.size w5 w10 := bthen hB9 hb10; have hS10 := hSW _ hB10))
  have HP10 : Aside _ := box_mono HP5.out hB10
  have HB10 : Aside (Below w.heap.size w w10) := bthen HB5.out hB10
  clear hSW hS0 hS6 hS7 hS8 hS9 hS10 hB6 hB7 hB8 hB9 hB10 hs8 hs9 hb6 hb7 hb8 hb9 hb10 n1 n2 b1' b2' b3' b4' hzP hzA hzC HP5 HA5 HC5 HB5 HP4 HA4 HC4 HB4 HP3 HA3 HC3 HB3 HP2 HA2 HB2 HP1 HB1 H18 H23 H15 H24
  have hz10 := box_lt HP10.out
  obtain ⟨q0, q1, q2, q3, q4, -, -, -, -, -⟩ := cells5 HP10.out
  go_wp2_with fail
  refine (H25.out w10 HB10.out).mono ?_
  rintro e w11 ⟨a11, c11, rfl, hs11, hb11⟩
  have HP11 : Aside _ := box_mono HP10.out hb11
  have HB11 : Aside (Below w.heap.size w w11) := bthen HB10.out hb11
  have HS11 : Aside (SlOk eU64 w11 ⟨a11, c11, gg⟩) := hs11
  clear q0 q1 q2 q3 q4 hb11 hs11 H25
  have hz11 := box_lt HP11.out
  obtain ⟨q0, q1, q2, q3, q4, -, -, -, -, -⟩ := cells5 HP11.out
  dsimp only
  go_wp2_with fail
  refine (H26.out w11 HB11.out).mono ?_
  rintro e w12 ⟨a12, c12, rfl, hs12, hb12⟩
  have HP12 : Aside _ := box_mono HP11.out hb12
  have HB12 : Aside (Below w.heap.size w w12) := bthen HB11.out hb12
  have HS12 : Aside (SlOk eU64 w12 ⟨a12, c12, gg⟩) := hs12
  have HT12 : Aside (SlOk eU64 w12 ⟨a11, c11, gg⟩) := HS11.out.mono hb12
  clear q0 q1 q2 q3 q4 hb12 hs12 H26 HS11
  have hz12 := box_lt HP12.out
  obtain ⟨q0, q1, q2, q3, q4, -, -, -, -, -⟩ := cells5 HP12.out
  dsimp only
  go_wp2_with fail
  have hSW : ∀ w', Below w12.heap.size w12 w' → w'.cell? ⟨w.heap.size, 0, none⟩ = some (.int .u64 pv) ∧ w'.cell? ⟨w.heap.size, 1, none⟩ = some (.int .u64 pn) ∧ w'.cell? ⟨w.heap.size, 2, none⟩ = some (.slice ca cs.length cc) ∧ w'.cell? ⟨w.heap.size, 3, none⟩ = some (.slice la ls.length lc) ∧ w'.cell? ⟨w.heap.size, 4, none⟩ = some (.slice pa ps.length pc) :=
    fun w' hW => ⟨(hW.cell (p := ⟨w.heap.size, 0, none⟩) hz12).trans q0, (hW.cell (p := ⟨w.heap.size, 1, none⟩) hz12).trans q1, (hW.cell (p := ⟨w.heap.size, 2, none⟩) hz12).trans q2, (hW.cell (p := ⟨w.heap.size, 3, none⟩) hz12).trans q3, (hW.cell (p := ⟨w.heap.size, 4, none⟩) hz12).trans q4⟩
  have hS0 := hSW _ (Below.refl _ w12).drew
  have b1' : (g2 == g2) = true := by simp
  have b2' : (g3 == g3) = true := by simp
  clear q0 q1 q2 q3 q4 hz10 hz11
  go_region_held3 (fun w' => w'.cell? ⟨w.heap.size, 0, none⟩ = some (.int .u64 pv) ∧ w'.cell? ⟨w.heap.size, 1, none⟩ = some (.int .u64 pn) ∧ w'.cell? ⟨w.heap.size, 2, none⟩ = some (.slice ca cs.length cc) ∧ w'.cell? ⟨w.heap.size, 3, none⟩ = some (.slice la ls.length lc) ∧ w'.cell? ⟨w.heap.size, 4, none⟩ = some (.slice pa ps.length pc))
    (first | (with_reducible exact hS17) | (with_reducible exact hS16) | (with_reducible exact hS15) | (with_reducible exact hS14) | (with_reducible exact hS13) | (with_reducible exact hS0))
    (first
      | (go_at_call 27; (with_reducible refine (same27 ⟨a11, c11, gg⟩ ⟨a12, c12, gg⟩ w12.drew (HT12.out.mono (Below.refl _ _).drew) (HS12.out.mono (Below.refl _ _).drew)).mono ?_); rintro x w13 ⟨rfl, hb13⟩; have hB13 : Below w12.heap.size w12 w13 := bthen (Below.refl _ _).drew hb13; have hS13 := hSW _ hB13)
      | (go_at_call 28; (with_reducible refine (H28.out w13 ?_).mono ?_); exact bthen HB12.out hB13; rintro x w14 ⟨a14, c14, rfl, hs14, _, hb14⟩; have hB14 : Below w12.heap.size w12 w14 := bthen hB13 hb14; have hS14 := hSW _ hB14)
      | (go_at_call 29; (with_reducible refine (H29.out w14 ?_).mono ?_); exact bthen HB12.out hB14; rintro x w15 ⟨a15, c15, rfl, hs15, _, hb15⟩; have hB15 : Below w12.heap.size w12 w15 := bthen hB14 hb15; have hS15 := hSW _ hB15)
      | (go_at_call 27; (with_reducible refine (same27 ⟨a14, c14, KK⟩ ⟨a15, c15, KK⟩ w15 (hs14.mono hb15) hs15).mono ?_); rintro x w16 ⟨rfl, hb16⟩; have hB16 : Below w12.heap.size w12 w16 := bthen hB15 hb16; have hS16 := hSW _ hB16)
      | (go_at_call 14; (with_reducible refine (awake14 w16).mono ?_); rintro x w17 ⟨rfl, hb17⟩; have hB17 : Below w12.heap.size w12 w17 := bthen hB16 hb17; have hS17 := hSW _ hB17))
  have HB17 : Aside (Below w.heap.size w w17) := bthen HB12.out hB17
  clear hSW hS0 hS13 hS14 hS15 hS16 hS17 hB13 hB14 hB15 hB16 hB17 hs14 hs15 hb13 hb14 hb15 hb16 hb17 b1' b2'
  go_wp2
  go_ret
  exact ⟨rfl, HB17.out⟩

/-- ChainTells returns true, and changes nothing that was there. -/
theorem tells5 (p : PlanR) (ch sure o l n : Int) (w : World) (hp : p.Ok w) (hs : U64 sure) (ho : U64 o) : Calls Tryz.prog 5 #[p.v, .int .i64 ch, .int .u64 sure, .int .u64 o, .int .u64 l, .int .u64 n] w (TrueHere w) := by
  cases hl : longB p with
  | true => exact tells_long p ch sure o l n w hp hl
  | false => exact tells_some p ch sure o l n w hp hl hs ho
end Go.Proofs.YtdiamknibfamdaaGreat
