/- Whether a plan's channel may be. -/
import Derived.Test.YtdiamknibfamdaaGreatSeen
namespace Go.Proofs.YtdiamknibfamdaaGreat
open Go.RowKit Go.Shelf

/-- Each is found; none but the last is open. -/
def idsOkB (ls : List Ledger) : List Int → Bool
  | [] => true
  | id :: t => (match findL ls id with | some l => !(decide (l.closed = 0) && decide (0 < t.length)) | none => false) && idsOkB ls t
def channelB (ls : List Ledger) (c : Channel) : Bool :=
  countsB [c.epoch, c.renewed, c.first] && ownedB c && decide (c.ledgers.length ≤ 8) && riseB c.ledgers &&
    fromB c.trim c.first (if (openOf ls c).isSome then addU (endOf ls c) 8 else endOf ls c) && countsB [addU (endOf ls c) 8] &&
    idsOkB ls c.ledgers && seenB c && decide (c.cursors.length ≤ 3) && riseB (c.cursors.map (·.sub)) && c.cursors.all cursorB

theorem counts_lit (xs : List Int) (w : World) (B : Nat) (t : TypeId) (n c : Nat) (hB : w.heap[B]? = some (.cells (xs.map (Value.int .u64)).toArray t (0, 0))) (h : ∀ x ∈ xs, U64 x) (hn : xs.length = n) (hc : n = c) (h9 : n ≤ 9) :
    Calls Tryz.prog 48 #[.slice (some ⟨B, 0, none⟩) n c] w fun e w' => e = .returned (.bool (countsB xs)) ∧ Below w.heap.size w w' := by
  subst hn hc
  exact counts48 ⟨some ⟨B, 0, none⟩, xs.length, xs⟩ w (lit_ok _ w B t (0, 0) hB h (by omega))

theorem addU_u64 (a b : Int) : U64 (addU a b) := by unfold addU U64; omega

set_option maxHeartbeats 4000000 in
set_option maxRecDepth 100000 in
theorem channel58 (p : PlanR) (k : Nat) (c : ChannelR) (w : World) (hp : p.Ok w) (hb : PlanSmall p) (hkl : p.channels.xs[k]? = some c) : Calls Tryz.prog 58 #[p.v, .int .i64 ((k : Int) + 1)] w fun e w' => e = .returned (.bool (channelB p.d.ledgers c.d)) ∧ Below w.heap.size w w' := by
  have hlt : k < p.channels.xs.length := (List.getElem?_eq_some_iff.1 hkl).1
  have hcap := hp.channels.cap
  have hle := hp.channels.le
  obtain ⟨b, off, c', ha, hy, hbk, hat, hok⟩ := hp.channels.get (j := k) hlt
  rw [hkl] at hy
  cases hy
  have hsm := hb.rows c (List.mem_of_getElem? hkl)
  have hk0 : (0 : Int) ≤ (k : Int) + 1 - 1 := by omega
  have hk2 : (k : Int) + 1 - 1 < (p.channels.xs.length : Int) := by omega
  have hk3 : ((k : Int) + 1 - 1).toNat = k := by omega
  have hhas : hasB p.d.channels.length ((k : Int) + 1) = true := by simp [hasB, fromB, PlanR.d]; omega
  have hgd : p.d.channels.getD ((k : Int) + 1 - 1).toNat default = c.d := by rw [hk3]; simp [PlanR.d, List.getD, hkl]
  have hI : I64 ((k : Int) + 1) := by unfold I64; omega
  have hend := fun W (hW : Below w.heap.size w W) => end34 p ((k : Int) + 1) W (hp.mono hW) hb hI
  have hopen := fun W (hW : Below w.heap.size w W) => open41 p ((k : Int) + 1) W (hp.mono hW) hb hI
  have hfind := fun W id (hW : Below w.heap.size w W) => find42 p id W (hp.mono hW) hb
  have e1 : endAt p.d ((k : Int) + 1) = endOf p.d.ledgers c.d := by unfold endAt; rw [if_pos hhas, hgd]
  have e2 : openAt p.d ((k : Int) + 1) = openOf p.d.ledgers c.d := by unfold openAt; rw [if_pos hhas, hgd]
  simp only [e1] at hend
  simp only [e2] at hopen
  have hown := fun W => owned101 c W
  have hseen := fun W (hW : Below w.heap.size w W) => seen104 c W (eChannel.mono hok hW) hsm.2.1
  have hri := fun W (hW : Below w.heap.size w W) => rise102 c.ledgers (fun x => x) 103 #[] enters103 W (hok.ledgers.mono hW) (fun W' x _ _ => key103 x W')
  have hric := fun W (hW : Below w.heap.size w W) => rise105 c.cursors (fun x => x.sub) 106 #[] enters106 W (hok.cursors.mono hW) (fun W' x _ _ => key106 x W')
  have hall := fun W (hW : Below w.heap.size w W) => all107 c.cursors cursorB 108 #[] enters108 W (hok.cursors.mono hW) (fun W' x hx hb' => cursorClosure108 x W' (eCursor.mono (hok.cursors.ok x hx) (bthen hW hb')))
  have hcell := at_channel hat
  simp only [show eChannel.k = 9 from rfl] at hcell
  have e0 : channelB p.d.ledgers c.d = (countsB [c.epoch, c.renewed, c.first] && ownedB c.d && decide (c.ledgers.xs.length ≤ 8) && riseB c.ledgers.xs &&
    fromB c.trim c.first (if (openOf p.d.ledgers c.d).isSome then addU (endOf p.d.ledgers c.d) 8 else endOf p.d.ledgers c.d) && countsB [addU (endOf p.d.ledgers c.d) 8] &&
    idsOkB p.d.ledgers c.ledgers.xs && seenB c.d && decide (c.cursors.xs.length ≤ 3) && riseB (c.cursors.xs.map (·.sub)) && c.cursors.xs.all cursorB) := rfl
  have hlok := hok.ledgers
  have hu3 : ∀ y ∈ [c.epoch, c.renewed, c.first], U64 y := by
    intro y hy
    simp at hy
    rcases hy with rfl | rfl | rfl
    · exact hok.epoch
    · exact hok.renewed
    · exact hok.first
  have HU3 : Hid _ := hu3
  clear hat hok hb hsm hkl hhas hgd e1 e2 hu3
  generalize channelB p.d.ledgers c.d = r at e0 ⊢
  generalize p.d.ledgers = LS at hfind hend hopen e0
  obtain ⟨ep, ow, ic, re, fi, tr, ⟨ia, icp, is⟩, ⟨sa, sc, ss⟩, ⟨ua, uc, us⟩⟩ := c
  generalize seenB _ = p1 at hseen e0
  generalize ownedB _ = p2 at hown e0
  generalize openOf LS _ = oo at hopen e0
  generalize endOf LS _ = en at hend e0
  generalize us.all cursorB = p3 at hall e0
  generalize riseB (us.map fun x => x.sub) = p4 at hric e0
  rw [List.map_id'] at hri
  generalize riseB is = p5 at hri e0
  clear hp
  obtain ⟨pv, pn, ⟨ca, cc, cs⟩, ⟨la, lc, ls⟩, ⟨pa, pc, ps⟩⟩ := p
  dsimp only at *
  subst ha
  have hcn3 : ∀ W B, W.heap[B]? = some (.cells #[.int .u64 ep, .int .u64 re, .int .u64 fi] 22 (0, 0)) → Calls Tryz.prog 48 #[.slice (some ⟨B, 0, none⟩) 3 3] W fun e w' => e = .returned (.bool (countsB [ep, re, fi])) ∧ Below W.heap.size W w' :=
    fun W B hB => counts_lit [ep, re, fi] W B 22 3 3 (by simpa using hB) HU3.out rfl rfl (by decide)
  have hcn1 : ∀ W B, W.heap[B]? = some (.cells #[.int .u64 (addU en 8)] 22 (0, 0)) → Calls Tryz.prog 48 #[.slice (some ⟨B, 0, none⟩) 1 1] W fun e w' => e = .returned (.bool (countsB [addU en 8])) ∧ Below W.heap.size W w' :=
    fun W B hB => counts_lit [addU en 8] W B 22 1 1 (by simpa using hB) (fun y hy => by simp at hy; subst hy; exact addU_u64 _ _) rfl rfl (by decide)
  have hm : IntKind.u64.wrap (en + 8) = addU en 8 := wrap_addU _ _
  generalize addU en 8 = m at hm hcn1 e0
  generalize countsB [m] = p6 at hcn1 e0
  generalize countsB [ep, re, fi] = p7 at hcn3 e0
  have E0 : Hid _ := e0
  have HLOK : Aside _ := hlok
  clear e0 hlok
  cases oo with
  | none =>
    simp only [Option.isSome_none] at *
    go_enter Tryz.func58, Tryz.ntmps58
    go_wp2_with fail
    refine (hend _ (balloc (b1 _ _) _)).mono ?_
    rintro e w1 ⟨rfl, hb1⟩
    have hB1 := bthen (balloc (b1 w _) _) hb1
    have hP1 := (hb1.block w.heap.size (by simp; omega)).trans (heap2_0 w _ _)
    have hC1 := (hb1.block (w.heap.size + 1) (by simp)).trans (heap2_1 w _ _)
    clear hb1
    dsimp only
    obtain ⟨q0, q1, q2, q3, q4, r0, r1, r2, r3, r4⟩ := cells5 hP1
    go_wp2_with fail
    refine (hopen _ hB1).mono ?_
    rintro e w2 ⟨⟨id2, wd2, ac2, ⟨fa, fc, fx⟩, cl2, la2⟩, rfl, hd2, ho2, hlo2, hb2⟩
    have hB2 := bthen hB1 hb2
    have hP2 := box_mono hP1 hb2
    have hC2 := box_mono hC1 hb2
    clear hb2 hB1 hP1 hC1 q0 q1 q2 q3 q4 r0 r1 r2 r3 r4 hd2 ho2 hlo2
    obtain ⟨c0, c1, c2, c3, c4, c5, c6, c7, c8, f0, f1, f2, f3, f4, f5, f6, f7, f8⟩ := cells9 hC2
    have hz2 := box_lt hC2
    dsimp only
    go_wp2_with (first | (go_at_call 48; refine (hcn3 _ _ (heap2_1 w2 _ _)).mono ?_; rintro e w3 ⟨rfl, hb3⟩; have hB3 := bthen (balloc (balloc hB2 _) _) hb3; have hC3 := box_mono hC2 (bthen (balloc (b1 _ _) _) hb3); have hP3 := box_mono hP2 (bthen (balloc (b1 _ _) _) hb3); obtain ⟨c0, c1, c2, c3, c4, c5, c6, c7, c8, f0, f1, f2, f3, f4, f5, f6, f7, f8⟩ := cells9 hC3; have hz3 := box_lt hC3) | (go_at_call 101; refine (hown _).mono ?_; rintro e w4 ⟨rfl, hb4⟩; have hB4 := bthen hB3 hb4; have hC4 := box_mono hC3 hb4; have hP4 := box_mono hP3 hb4; obtain ⟨c0, c1, c2, c3, c4, c5, c6, c7, c8, f0, f1, f2, f3, f4, f5, f6, f7, f8⟩ := cells9 hC4; have hz4 := box_lt hC4) | (go_at_call 102; refine (hri _ hB4).mono ?_; rintro e w5 ⟨rfl, hb5⟩; have hB5 := bthen hB4 hb5; have hC5 := box_mono hC4 hb5; have hP5 := box_mono hP4 hb5; obtain ⟨c0, c1, c2, c3, c4, c5, c6, c7, c8, f0, f1, f2, f3, f4, f5, f6, f7, f8⟩ := cells9 hC5; have hz5 := box_lt hC5) | (go_at_call 49; refine (from49 _ _ _ _).mono ?_; rintro e w' ⟨rfl, rfl⟩) | (go_at_call 48; refine (hcn1 _ _ (heap_top w5 _ _ rfl)).mono ?_; rintro e w6 ⟨rfl, hb6⟩; have hB6 := bthen (balloc hB5 _) hb6; have hC6 := box_mono hC5 (bthen (b1 _ _) hb6); have hP6 := box_mono hP5 (bthen (b1 _ _) hb6); obtain ⟨c0, c1, c2, c3, c4, c5, c6, c7, c8, f0, f1, f2, f3, f4, f5, f6, f7, f8⟩ := cells9 hC6; have hz6 := box_lt hC6))
    all_goals first
      | (go_ret
         refine ⟨ret_bool ?_, ?_⟩
         · rw [E0.out]
           clear hseen hown hall hric hri hfind hend hcn1 hcn3 hopen hcell
           rcases Nat.lt_or_ge 8 is.length with h8 | h8
           · have h9 : (8 : Int) < is.length := by omega
             simp_all [show decide (is.length ≤ 8) = false from decide_eq_false (by omega)]
           · have h9 : ¬ (8 : Int) < is.length := by omega
             simp_all
         · first | exact hB6 | exact hB5 | exact hB4 | exact hB3)
      | skip
    have BIGS : Aside _ := (⟨hB6, hC6, hP6⟩ : _ ∧ _ ∧ _)
    have E1 : Hid (r = (idsOkB LS is && p1 && decide (us.length ≤ 3) && p4 && p3)) := by show r = _; rw [E0.out]; clear hseen hown hall hric hri hfind hend hcn1 hcn3 hopen hcell; have h10 : is.length ≤ 8 := (by by_cases h : is.length ≤ 8; exact h; simp_all; omega); simp_all
    have hq : p6 = true ∧ is.length ≤ 8 := by
      clear hseen hown hall hric hri hfind hend hcn1 hcn3 hopen hcell
      have h10 : is.length ≤ 8 := (by by_cases h : is.length ≤ 8; exact h; simp_all; omega)
      exact ⟨by have h9 : ¬ (8 : Int) < is.length := (by omega); simp_all, h10⟩
    have hd8 : decide ((8 : Int) < (is.length : Int)) = false := decide_eq_false (by omega)
    obtain ⟨rfl, hl8⟩ := hq
    simp only [hd8, Bool.not_true, Bool.or_self]
    clear hB6 hC6 hP6 hB5 hC5 hP5 hB4 hC4 hP4 hB3 hC3 hP3 hB2 hC2 hP2 hb6 hb5 hb4 hb3
    go_loopg [78] is.length (fun gg s78 wr => ∃ j : Nat, j ≤ is.length ∧ is.length - j ≤ gg ∧ s78 = .int .i64 j ∧ Aside (idsOkB LS is = idsOkB LS (is.drop j)) ∧ Aside (Below w.heap.size w wr ∧ wr.heap[w.heap.size + 1]? = some (.cells #[.int .u64 ep, .int .i64 ow, .int .u64 ic, .int .u64 re, .int .u64 fi, .int .u64 tr, .slice ia is.length icp, .slice sa ss.length sc, .slice ua us.length uc] 42 (0, 0)) ∧ wr.heap[w.heap.size]? = some (.cells #[.int .u64 pv, .int .u64 pn, .slice (some ⟨b, off, none⟩) cs.length cc, .slice la ls.length lc, .slice pa ps.length pc] 27 (0, 0))))
    case atStart => exact ⟨0, Nat.zero_le _, by omega, rfl, by simp [Aside], BIGS.out⟩
    case round =>
      obtain ⟨j, hj, hg, rfl, A, BX⟩ := hrel
      have hB := BX.out.1
      have hC := BX.out.2.1
      have hP := BX.out.2.2
      obtain ⟨q0, q1, q2, q3, q4, r0, r1, r2, r3, r4⟩ := cells5 hP
      obtain ⟨c0, c1, c2, c3, c4, c5, c6, c7, c8, f0, f1, f2, f3, f4, f5, f6, f7, f8⟩ := cells9 hC
      have hlt1 := box_lt hC
      have hcp := HLOK.out.cap
      have hlp := HLOK.out.le
      dsimp only at hcp hlp
      have HB : Aside _ := hB
      have HC : Aside _ := hC
      have HP : Aside _ := hP
      clear hB hC hP BX
      by_cases hlt : j < is.length
      · obtain ⟨b', off', id, ha', hy', hb', hat', _⟩ := (HLOK.out.mono HB.out).get (j := j) hlt
        have hc' := at_u64 hat'
        dsimp only at ha' hy'
        simp only [show eU64.k = 1 from rfl, Nat.mul_one] at hc'
        subst ha'
        have hdr : is.drop j = id :: is.drop (j + 1) := by
          rw [List.drop_eq_getElem_cons hlt]
          congr 1
          exact (List.getElem?_eq_some_iff.1 hy').2
        have HDR : Hid _ := hdr
        clear hdr hat' hy'
        have hltz : (j : Int) < (is.length : Int) := by omega
        have hlast : (List.drop (j + 1) is).length = is.length - (j + 1) := by simp
        have A2 : Hid (idsOkB LS is = ((match findL LS id with | some l => !(decide (l.closed = 0) && decide (0 < is.length - (j + 1))) | none => false) && idsOkB LS (is.drop (j + 1)))) := by
          show idsOkB LS is = _
          rw [A.out, HDR.out]
          simp only [idsOkB, hlast]
        have hfi := hfind wr id HB.out
        generalize findL LS id = o at hfi A2
        go_wp2_with fail
        refine hfi.mono ?_
        rintro x w3 ⟨⟨id3, wd3, ac3, ⟨fa, fc, fx⟩, cl3, la3⟩, rfl, hd3, _, _, hb3⟩
        have hB3 := bthen HB.out hb3
        have hC3 := box_mono HC.out hb3
        have hP3 := box_mono HP.out hb3
        obtain ⟨c0, c1, c2, c3, c4, c5, c6, c7, c8, f0, f1, f2, f3, f4, f5, f6, f7, f8⟩ := cells9 hC3
        have hz3 := box_lt hC3
        have HB3 : Aside _ := hB3
        have HC3 : Aside _ := hC3
        have HP3 : Aside _ := hP3
        clear hB3 hC3 hP3 hb3 HB HC HP hfi hfind hcell hseen hall hric hopen hend hown hri
        have hw1 : IntKind.i64.wrap ((j : Int) + 1) = (j : Int) + 1 := wrap_i64 (by omega) (by omega)
        cases o with
        | none =>
          clear hd3
          go_wp2
          go_ret
          exact ⟨ret_bool (by rw [E1.out, A2.out]; rfl), balloc HB3.out _⟩
        | some y =>
          have hcl : cl3 = y.closed := congrArg Ledger.closed hd3
          have HD : Aside _ := hd3
          clear hd3
          by_cases hc0 : cl3 = 0
          · have hc1 : y.closed = 0 := by omega
            clear hcl
            subst hc0
            by_cases hl : j + 1 < is.length
            · have hlz : (j : Int) + 1 < (is.length : Int) := by omega
              go_wp2
              go_ret
              refine ⟨ret_bool ?_, balloc HB3.out _⟩
              rw [E1.out, A2.out]
              simp [hc1]; omega
            · have hlz : ¬ (j : Int) + 1 < (is.length : Int) := by omega
              go_wp2
              go_roundg (is.length - (j + 1))
              case measure => omega
              case rel => exact ⟨j + 1, by omega, by omega, by go_num, by show idsOkB LS is = _; rw [A2.out]; simp [hc1]; omega, balloc HB3.out _, box_mono HC3.out (b1 _ _), box_mono HP3.out (b1 _ _)⟩
          · have hc1 : ¬ y.closed = 0 := by omega
            clear hcl
            go_wp2
            go_roundg (is.length - (j + 1))
            case measure => omega
            case rel => exact ⟨j + 1, by omega, by omega, by go_num, by show idsOkB LS is = _; rw [A2.out]; simp [hc1], balloc HB3.out _, box_mono HC3.out (b1 _ _), box_mono HP3.out (b1 _ _)⟩
      · have hltz : ¬ (j : Int) < (is.length : Int) := by omega
        have hall1 : Hid (idsOkB LS is = true) := by
          show idsOkB LS is = true
          rw [A.out, List.drop_eq_nil_of_le (by omega)]
          rfl
        clear hfind
        go_wp2_with (first | (go_at_call 104; refine (hseen _ HB.out).mono ?_; rintro e w3 ⟨rfl, hb3⟩; have hB3 := bthen HB.out hb3; have hC3 := box_mono HC.out hb3; obtain ⟨c0, c1, c2, c3, c4, c5, c6, c7, c8, f0, f1, f2, f3, f4, f5, f6, f7, f8⟩ := cells9 hC3; have hz3 := box_lt hC3) | (go_at_call 105; refine (hric _ hB3).mono ?_; rintro e w4 ⟨rfl, hb4⟩; have hB4 := bthen hB3 hb4; have hC4 := box_mono hC3 hb4; obtain ⟨c0, c1, c2, c3, c4, c5, c6, c7, c8, f0, f1, f2, f3, f4, f5, f6, f7, f8⟩ := cells9 hC4; have hz4 := box_lt hC4) | (go_at_call 107; refine (hall _ hB4).mono ?_; rintro e w5 ⟨rfl, hb5⟩; have hB5 := bthen hB4 hb5))
        all_goals
          go_ret
          refine ⟨ret_bool ?_, ?_⟩
          · rw [E1.out, hall1.out]
            clear hseen hown hall hric hri hend hopen hcell
            subst_vars
            rcases Nat.lt_or_ge 3 us.length with h8 | h8
            · rw [show decide (us.length ≤ 3) = false from decide_eq_false (by omega)]
              first | (exfalso; omega) | (simp only [Bool.and_false, Bool.false_and]; done)
            · rw [show decide (us.length ≤ 3) = true from decide_eq_true (by omega)]
              first | (exfalso; omega) | rfl | (cases p4 <;> first | rfl | contradiction) | (cases p1 <;> first | rfl | contradiction)
          · first | exact hB5 | exact hB4 | exact hB3
  | some y0 =>
    simp only [Option.isSome_some] at *
    go_enter Tryz.func58, Tryz.ntmps58
    go_wp2_with fail
    refine (hend _ (balloc (b1 _ _) _)).mono ?_
    rintro e w1 ⟨rfl, hb1⟩
    have hB1 := bthen (balloc (b1 w _) _) hb1
    have hP1 := (hb1.block w.heap.size (by simp; omega)).trans (heap2_0 w _ _)
    have hC1 := (hb1.block (w.heap.size + 1) (by simp)).trans (heap2_1 w _ _)
    clear hb1
    dsimp only
    obtain ⟨q0, q1, q2, q3, q4, r0, r1, r2, r3, r4⟩ := cells5 hP1
    go_wp2_with fail
    refine (hopen _ hB1).mono ?_
    rintro e w2 ⟨⟨id2, wd2, ac2, ⟨fa, fc, fx⟩, cl2, la2⟩, rfl, hd2, ho2, hlo2, hb2⟩
    have hB2 := bthen hB1 hb2
    have hP2 := box_mono hP1 hb2
    have hC2 := box_mono hC1 hb2
    clear hb2 hB1 hP1 hC1 q0 q1 q2 q3 q4 r0 r1 r2 r3 r4 hd2 ho2 hlo2
    obtain ⟨c0, c1, c2, c3, c4, c5, c6, c7, c8, f0, f1, f2, f3, f4, f5, f6, f7, f8⟩ := cells9 hC2
    have hz2 := box_lt hC2
    dsimp only
    go_wp2_with (first | (go_at_call 48; refine (hcn3 _ _ (heap2_1 w2 _ _)).mono ?_; rintro e w3 ⟨rfl, hb3⟩; have hB3 := bthen (balloc (balloc hB2 _) _) hb3; have hC3 := box_mono hC2 (bthen (balloc (b1 _ _) _) hb3); have hP3 := box_mono hP2 (bthen (balloc (b1 _ _) _) hb3); obtain ⟨c0, c1, c2, c3, c4, c5, c6, c7, c8, f0, f1, f2, f3, f4, f5, f6, f7, f8⟩ := cells9 hC3; have hz3 := box_lt hC3) | (go_at_call 101; refine (hown _).mono ?_; rintro e w4 ⟨rfl, hb4⟩; have hB4 := bthen hB3 hb4; have hC4 := box_mono hC3 hb4; have hP4 := box_mono hP3 hb4; obtain ⟨c0, c1, c2, c3, c4, c5, c6, c7, c8, f0, f1, f2, f3, f4, f5, f6, f7, f8⟩ := cells9 hC4; have hz4 := box_lt hC4) | (go_at_call 102; refine (hri _ hB4).mono ?_; rintro e w5 ⟨rfl, hb5⟩; have hB5 := bthen hB4 hb5; have hC5 := box_mono hC4 hb5; have hP5 := box_mono hP4 hb5; obtain ⟨c0, c1, c2, c3, c4, c5, c6, c7, c8, f0, f1, f2, f3, f4, f5, f6, f7, f8⟩ := cells9 hC5; have hz5 := box_lt hC5) | (go_at_call 49; refine (from49 _ _ _ _).mono ?_; rintro e w' ⟨rfl, rfl⟩) | (go_at_call 48; refine (hcn1 _ _ (heap_top w5 _ _ rfl)).mono ?_; rintro e w6 ⟨rfl, hb6⟩; have hB6 := bthen (balloc hB5 _) hb6; have hC6 := box_mono hC5 (bthen (b1 _ _) hb6); have hP6 := box_mono hP5 (bthen (b1 _ _) hb6); obtain ⟨c0, c1, c2, c3, c4, c5, c6, c7, c8, f0, f1, f2, f3, f4, f5, f6, f7, f8⟩ := cells9 hC6; have hz6 := box_lt hC6))
    all_goals first
      | (go_ret
         refine ⟨ret_bool ?_, ?_⟩
         · rw [E0.out]
           clear hseen hown hall hric hri hfind hend hcn1 hcn3 hopen hcell
           rcases Nat.lt_or_ge 8 is.length with h8 | h8
           · have h9 : (8 : Int) < is.length := by omega
             simp_all [show decide (is.length ≤ 8) = false from decide_eq_false (by omega)]
           · have h9 : ¬ (8 : Int) < is.length := by omega
             simp_all
         · first | exact hB6 | exact hB5 | exact hB4 | exact hB3)
      | skip
    have BIGS : Aside _ := (⟨hB6, hC6, hP6⟩ : _ ∧ _ ∧ _)
    have E1 : Hid (r = (idsOkB LS is && p1 && decide (us.length ≤ 3) && p4 && p3)) := by show r = _; rw [E0.out]; clear hseen hown hall hric hri hfind hend hcn1 hcn3 hopen hcell; have h10 : is.length ≤ 8 := (by by_cases h : is.length ≤ 8; exact h; simp_all; omega); simp_all
    have hq : p6 = true ∧ is.length ≤ 8 := by
      clear hseen hown hall hric hri hfind hend hcn1 hcn3 hopen hcell
      have h10 : is.length ≤ 8 := (by by_cases h : is.length ≤ 8; exact h; simp_all; omega)
      exact ⟨by have h9 : ¬ (8 : Int) < is.length := (by omega); simp_all, h10⟩
    have hd8 : decide ((8 : Int) < (is.length : Int)) = false := decide_eq_false (by omega)
    obtain ⟨rfl, hl8⟩ := hq
    simp only [hd8, Bool.not_true, Bool.or_self]
    clear hB6 hC6 hP6 hB5 hC5 hP5 hB4 hC4 hP4 hB3 hC3 hP3 hB2 hC2 hP2 hb6 hb5 hb4 hb3
    go_loopg [78] is.length (fun gg s78 wr => ∃ j : Nat, j ≤ is.length ∧ is.length - j ≤ gg ∧ s78 = .int .i64 j ∧ Aside (idsOkB LS is = idsOkB LS (is.drop j)) ∧ Aside (Below w.heap.size w wr ∧ wr.heap[w.heap.size + 1]? = some (.cells #[.int .u64 ep, .int .i64 ow, .int .u64 ic, .int .u64 re, .int .u64 fi, .int .u64 tr, .slice ia is.length icp, .slice sa ss.length sc, .slice ua us.length uc] 42 (0, 0)) ∧ wr.heap[w.heap.size]? = some (.cells #[.int .u64 pv, .int .u64 pn, .slice (some ⟨b, off, none⟩) cs.length cc, .slice la ls.length lc, .slice pa ps.length pc] 27 (0, 0))))
    case atStart => exact ⟨0, Nat.zero_le _, by omega, rfl, by simp [Aside], BIGS.out⟩
    case round =>
      obtain ⟨j, hj, hg, rfl, A, BX⟩ := hrel
      have hB := BX.out.1
      have hC := BX.out.2.1
      have hP := BX.out.2.2
      obtain ⟨q0, q1, q2, q3, q4, r0, r1, r2, r3, r4⟩ := cells5 hP
      obtain ⟨c0, c1, c2, c3, c4, c5, c6, c7, c8, f0, f1, f2, f3, f4, f5, f6, f7, f8⟩ := cells9 hC
      have hlt1 := box_lt hC
      have hcp := HLOK.out.cap
      have hlp := HLOK.out.le
      dsimp only at hcp hlp
      have HB : Aside _ := hB
      have HC : Aside _ := hC
      have HP : Aside _ := hP
      clear hB hC hP BX
      by_cases hlt : j < is.length
      · obtain ⟨b', off', id, ha', hy', hb', hat', _⟩ := (HLOK.out.mono HB.out).get (j := j) hlt
        have hc' := at_u64 hat'
        dsimp only at ha' hy'
        simp only [show eU64.k = 1 from rfl, Nat.mul_one] at hc'
        subst ha'
        have hdr : is.drop j = id :: is.drop (j + 1) := by
          rw [List.drop_eq_getElem_cons hlt]
          congr 1
          exact (List.getElem?_eq_some_iff.1 hy').2
        have HDR : Hid _ := hdr
        clear hdr hat' hy'
        have hltz : (j : Int) < (is.length : Int) := by omega
        have hlast : (List.drop (j + 1) is).length = is.length - (j + 1) := by simp
        have A2 : Hid (idsOkB LS is = ((match findL LS id with | some l => !(decide (l.closed = 0) && decide (0 < is.length - (j + 1))) | none => false) && idsOkB LS (is.drop (j + 1)))) := by
          show idsOkB LS is = _
          rw [A.out, HDR.out]
          simp only [idsOkB, hlast]
        have hfi := hfind wr id HB.out
        generalize findL LS id = o at hfi A2
        go_wp2_with fail
        refine hfi.mono ?_
        rintro x w3 ⟨⟨id3, wd3, ac3, ⟨fa, fc, fx⟩, cl3, la3⟩, rfl, hd3, _, _, hb3⟩
        have hB3 := bthen HB.out hb3
        have hC3 := box_mono HC.out hb3
        have hP3 := box_mono HP.out hb3
        obtain ⟨c0, c1, c2, c3, c4, c5, c6, c7, c8, f0, f1, f2, f3, f4, f5, f6, f7, f8⟩ := cells9 hC3
        have hz3 := box_lt hC3
        have HB3 : Aside _ := hB3
        have HC3 : Aside _ := hC3
        have HP3 : Aside _ := hP3
        clear hB3 hC3 hP3 hb3 HB HC HP hfi hfind hcell hseen hall hric hopen hend hown hri
        have hw1 : IntKind.i64.wrap ((j : Int) + 1) = (j : Int) + 1 := wrap_i64 (by omega) (by omega)
        cases o with
        | none =>
          clear hd3
          go_wp2
          go_ret
          exact ⟨ret_bool (by rw [E1.out, A2.out]; rfl), balloc HB3.out _⟩
        | some y =>
          have hcl : cl3 = y.closed := congrArg Ledger.closed hd3
          have HD : Aside _ := hd3
          clear hd3
          by_cases hc0 : cl3 = 0
          · have hc1 : y.closed = 0 := by omega
            clear hcl
            subst hc0
            by_cases hl : j + 1 < is.length
            · have hlz : (j : Int) + 1 < (is.length : Int) := by omega
              go_wp2
              go_ret
              refine ⟨ret_bool ?_, balloc HB3.out _⟩
              rw [E1.out, A2.out]
              simp [hc1]; omega
            · have hlz : ¬ (j : Int) + 1 < (is.length : Int) := by omega
              go_wp2
              go_roundg (is.length - (j + 1))
              case measure => omega
              case rel => exact ⟨j + 1, by omega, by omega, by go_num, by show idsOkB LS is = _; rw [A2.out]; simp [hc1]; omega, balloc HB3.out _, box_mono HC3.out (b1 _ _), box_mono HP3.out (b1 _ _)⟩
          · have hc1 : ¬ y.closed = 0 := by omega
            clear hcl
            go_wp2
            go_roundg (is.length - (j + 1))
            case measure => omega
            case rel => exact ⟨j + 1, by omega, by omega, by go_num, by show idsOkB LS is = _; rw [A2.out]; simp [hc1], balloc HB3.out _, box_mono HC3.out (b1 _ _), box_mono HP3.out (b1 _ _)⟩
      · have hltz : ¬ (j : Int) < (is.length : Int) := by omega
        have hall1 : Hid (idsOkB LS is = true) := by
          show idsOkB LS is = true
          rw [A.out, List.drop_eq_nil_of_le (by omega)]
          rfl
        clear hfind
        go_wp2_with (first | (go_at_call 104; refine (hseen _ HB.out).mono ?_; rintro e w3 ⟨rfl, hb3⟩; have hB3 := bthen HB.out hb3; have hC3 := box_mono HC.out hb3; obtain ⟨c0, c1, c2, c3, c4, c5, c6, c7, c8, f0, f1, f2, f3, f4, f5, f6, f7, f8⟩ := cells9 hC3; have hz3 := box_lt hC3) | (go_at_call 105; refine (hric _ hB3).mono ?_; rintro e w4 ⟨rfl, hb4⟩; have hB4 := bthen hB3 hb4; have hC4 := box_mono hC3 hb4; obtain ⟨c0, c1, c2, c3, c4, c5, c6, c7, c8, f0, f1, f2, f3, f4, f5, f6, f7, f8⟩ := cells9 hC4; have hz4 := box_lt hC4) | (go_at_call 107; refine (hall _ hB4).mono ?_; rintro e w5 ⟨rfl, hb5⟩; have hB5 := bthen hB4 hb5))
        all_goals
          go_ret
          refine ⟨ret_bool ?_, ?_⟩
          · rw [E1.out, hall1.out]
            clear hseen hown hall hric hri hend hopen hcell
            subst_vars
            rcases Nat.lt_or_ge 3 us.length with h8 | h8
            · rw [show decide (us.length ≤ 3) = false from decide_eq_false (by omega)]
              first | (exfalso; omega) | (simp only [Bool.and_false, Bool.false_and]; done)
            · rw [show decide (us.length ≤ 3) = true from decide_eq_true (by omega)]
              first | (exfalso; omega) | rfl | (cases p4 <;> first | rfl | contradiction) | (cases p1 <;> first | rfl | contradiction)
          · first | exact hB5 | exact hB4 | exact hB3
end Go.Proofs.YtdiamknibfamdaaGreat
