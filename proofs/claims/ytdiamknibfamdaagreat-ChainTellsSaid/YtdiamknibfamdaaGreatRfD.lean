/- The references of layer 7: channel, where it has an owner. -/
import Derived.Test.YtdiamknibfamdaaGreatRfC
namespace Go.Proofs.YtdiamknibfamdaaGreat
open Go.RowKit Go.Shelf
attribute [local go_sem ↓] Go.wp_at_zero Go.wp_at_succ

set_option maxHeartbeats 8000000 in
set_option maxRecDepth 100000 in
theorem chan_pos (p : PlanR) (k : Nat) (c : ChannelR) (w : World) (hp : p.Ok w) (hkl : p.channels.xs[k]? = some c) (hE : 0 < c.epoch) : Calls Tryz.prog 114 #[p.v, .int .i64 ((k : Int) + 1)] w (Tells (RefChan p.d.ledgers c.d) w) := by
  have hlt : k < p.channels.xs.length := (List.getElem?_eq_some_iff.1 hkl).1
  have hfind := fun W id (hW : Below w.heap.size w W) => refFind68 p id W (hp.mono hW)
  have hend := fun W (hW : Below w.heap.size w W) => refEnd168 p k c W (hp.mono hW) hkl
  have hopen := fun W (hW : Below w.heap.size w W) => refOpen169 p k c W (hp.mono hW) hkl
  have hcap := hp.channels.cap
  have hle := hp.channels.le
  have hls := hp.ledgers
  have hlsl := hls.le
  have hlsc := hls.cap
  obtain ⟨b, off, c', ha, hy, hbk, hat, hok⟩ := hp.channels.get (j := k) hlt
  rw [hkl] at hy
  cases hy
  have hcell := at_channel hat
  simp only [show eChannel.k = 9 from rfl] at hcell
  have hlok := hok.ledgers
  have hlol := hlok.le
  have hloc := hlok.cap
  have hsok := hok.seen
  have hsol := hsok.le
  have hsoc := hsok.cap
  have hcok := hok.cursors
  have hcol := hcok.le
  have hcoc := hcok.cap
  have hep := hok.epoch.1
  have e3 : p.d.ledgers = p.ledgers.xs.map LedgerR.d := rfl
  rw [e3] at hfind hend hopen ⊢
  obtain ⟨EN, hEN⟩ : ∃ EN, endOf (p.ledgers.xs.map LedgerR.d) c.d = EN := ⟨_, rfl⟩
  have hENu : 0 ≤ EN ∧ EN < 18446744073709551616 := by rw [← hEN]; exact endOf_u64 hok.first
  obtain ⟨OP, hOP⟩ : ∃ OP, openOf (p.ledgers.xs.map LedgerR.d) c.d = OP := ⟨_, rfl⟩
  rw [hEN] at hend
  rw [hOP] at hopen
  have hR : RefChan (p.ledgers.xs.map LedgerR.d) c.d ↔ ((c.epoch ≤ 4611686018427387903 ∧ c.renewed ≤ 4611686018427387903 ∧ c.first ≤ 4611686018427387903 ∧ c.ledgers.xs.length ≤ 8 ∧ c.cursors.xs.length ≤ 3) ∧ (c.epoch = 0 → c.owner = 0 ∧ c.inc = 0 ∧ c.ledgers.xs.length = 0) ∧ (0 < c.epoch → 1 ≤ c.owner ∧ c.owner ≤ 15 ∧ 1 ≤ c.inc ∧ c.inc ≤ 4611686018427387903)) ∧
      (∀ i, i < c.ledgers.xs.length → IdGood (p.ledgers.xs.map LedgerR.d) c.ledgers.xs i) ∧ (c.first ≤ c.trim ∧ c.trim ≤ (if OP.isSome then addU EN 8 else EN) ∧ addU EN 8 ≤ 4611686018427387903) ∧ MarksGood c.seen.xs ∧ (∀ (i : Nat) (x : Mark), c.seen.xs[i]? = some x → x.offset < c.first) ∧ ∀ i, i < c.cursors.xs.length → CursorGood c.cursors.xs i := by
    rw [← hEN, ← hOP]
    exact ⟨fun h => ⟨⟨h.head, h.none, h.some⟩, h.ids, h.trim, h.marks, h.offs, h.cursors⟩, fun h => ⟨h.1.1, h.1.2.1, h.1.2.2, h.2.1, h.2.2.1, h.2.2.2.1, h.2.2.2.2.1, h.2.2.2.2.2⟩⟩
  generalize RefChan (p.ledgers.xs.map LedgerR.d) c.d = R at hR ⊢
  clear e3 hat hok hp hkl hEN hOP
  have hk0 : (0 : Int) ≤ (k : Int) + 1 - 1 := by omega
  have hk2 : (k : Int) + 1 - 1 < (p.channels.xs.length : Int) := by omega
  have hk3 : ((k : Int) + 1 - 1).toNat = k := by omega
  have hk4 : (k : Int) < (p.channels.xs.length : Int) := by omega
  have hk5 : (0 : Int) ≤ (k : Int) := by omega
  have hw1 : IntKind.i64.wrap ((k : Int) + 1 - 1) = (k : Int) := by rw [wrap_i64 (by omega) (by omega)]; omega
  have hw2 : IntKind.i64.wrap (k : Int) = (k : Int) := wrap_i64 (by omega) (by omega)
  obtain ⟨ep, ow, ic, re, fi, tr, ⟨ia, icp, is⟩, ⟨sa, sc, ss⟩, ⟨ua, uc, us⟩⟩ := c
  obtain ⟨pv, pn, ⟨ca, cc, cs⟩, ⟨la, lc, ls⟩, ⟨pa, pc, ps⟩⟩ := p
  dsimp only at *
  subst ha
  obtain ⟨m0, m1, m2, m3, m4, m5, m6, m7, m8⟩ := hcell
  have hbne : b ≠ w.heap.size := by omega
  have RH := fun h : R => (hR.1 h).1
  have RH : Aside _ := RH
  have HR : Aside _ := hR
  clear hR
  have HLOK : Aside _ := hlok
  have HSOK : Aside _ := hsok
  have HCOK : Aside _ := hcok
  have HLS : Aside _ := hls
  have HF : Aside _ := hfind
  obtain ⟨E8, hE8⟩ : ∃ E8, addU EN 8 = E8 := ⟨_, rfl⟩
  have HE8 : Hid _ := hE8
  clear hE8
  have HE : Aside _ := hend
  have HO : Aside _ := hopen
  clear hlok hsok hcok hls hfind hend hopen
  have HE0 : Hid _ := hE
  have hE1 : (ep == 0) = false := by simp; omega
  have hE2 : 0 < ep := hE
  clear hE
  go_enter Tryz.func114, Tryz.ntmps114
  go_wp2_with fail
  all_goals try (go_ret; exact tells_no (fun h => by have h1 := RH.out h; have h2 := HE0.out; omega) (balloc (b1 _ _) _); done)
  clear hE1 hE2
  have PRE : Hid ((ep ≤ 4611686018427387903 ∧ re ≤ 4611686018427387903 ∧ fi ≤ 4611686018427387903 ∧ is.length ≤ 8 ∧ us.length ≤ 3) ∧ (ep = 0 → ow = 0 ∧ ic = 0 ∧ is.length = 0) ∧ (0 < ep → 1 ≤ ow ∧ ow ≤ 15 ∧ 1 ≤ ic ∧ ic ≤ 4611686018427387903)) := by
    have h2 := HE0.out
    refine ⟨⟨?_, ?_, ?_, ?_, ?_⟩, fun _ => ⟨?_, ?_, ?_⟩, fun _ => ⟨?_, ?_, ?_, ?_⟩⟩ <;> omega
  clear m0 m1 m2 m3 m4 m5 m6 m7 m8
  go_loopg [6] is.length (fun gg s6 wr => ∃ i : Nat, i ≤ is.length ∧ is.length - i ≤ gg ∧ s6 = .int .i64 i ∧ Aside ((∀ j, j < i → IdGood (ls.map LedgerR.d) is j) ∧ Below w.heap.size w wr ∧ wr.heap[w.heap.size]? = some (.cells #[.int .u64 pv, .int .u64 pn, .slice (some ⟨b, off, none⟩) cs.length cc, .slice la ls.length lc, .slice pa ps.length pc] 27 (0, 0)) ∧ wr.heap[w.heap.size + 1]? = some (.cells #[.int .u64 ep, .int .i64 ow, .int .u64 ic, .int .u64 re, .int .u64 fi, .int .u64 tr, .slice ia is.length icp, .slice sa ss.length sc, .slice ua us.length uc] 42 (0, 0))))
  case atStart => exact ⟨0, Nat.zero_le _, by omega, rfl, fun j hj => absurd hj (Nat.not_lt_zero _), balloc (b1 _ _) _, heap2_0 w _ _, heap2_1 w _ _⟩
  case round =>
    obtain ⟨i, hi, hg, rfl, A⟩ := hrel
    obtain ⟨wo, rfl⟩ : ∃ wo : World, wo = wr := ⟨_, rfl⟩
    obtain ⟨q0, q1, q2, q3, q4, r0, r1, r2, r3, r4⟩ := cells5 A.out.2.2.1
    obtain ⟨c0, c1, c2, c3, c4, c5, c6, c7, c8, -, -, -, -, -, -, -, -, -⟩ := cells9 A.out.2.2.2
    have hz := box_lt A.out.2.2.2
    by_cases hlt2 : i < is.length
    · obtain ⟨b', o', id, ha', hy', hb', hat', _⟩ := (HLOK.out.mono A.out.2.1).get (j := i) hlt2
      have i0 := at_u64 hat'
      dsimp only at ha' hy'
      simp only [show eU64.k = 1 from rfl, Nat.mul_one] at i0
      subst ha'
      have HID : Hid _ := hy'
      have hltz : (i : Int) < (is.length : Int) := by omega
      have hi0 : (0 : Int) ≤ (i : Int) := by omega
      have bad : ¬ IdGood (ls.map LedgerR.d) is i → ¬ R := fun h hr => h ((HR.out.1 hr).2.1 i hlt2)
      have BAD : Aside _ := bad
      clear hat' hy' bad
      have hSW : ∀ w', Below wo.heap.size wo w' → w'.cell? ⟨w.heap.size, 0, none⟩ = some (.int .u64 pv) ∧ w'.cell? ⟨w.heap.size, 1, none⟩ = some (.int .u64 pn) ∧ w'.cell? ⟨w.heap.size, 2, none⟩ = some (.slice (some ⟨b, off, none⟩) cs.length cc) ∧ w'.cell? ⟨w.heap.size, 3, none⟩ = some (.slice la ls.length lc) ∧ w'.cell? ⟨w.heap.size, 4, none⟩ = some (.slice pa ps.length pc) ∧ w'.cell? ⟨w.heap.size + 1, 6, none⟩ = some (.slice (some ⟨b', o', none⟩) is.length icp) ∧ w'.cell? ⟨b', o' + i, none⟩ = some (.int .u64 id) :=
        fun w' hW => ⟨(hW.cell (p := ⟨w.heap.size, 0, none⟩) (by dsimp only; omega)).trans q0, (hW.cell (p := ⟨w.heap.size, 1, none⟩) (by dsimp only; omega)).trans q1, (hW.cell (p := ⟨w.heap.size, 2, none⟩) (by dsimp only; omega)).trans q2, (hW.cell (p := ⟨w.heap.size, 3, none⟩) (by dsimp only; omega)).trans q3, (hW.cell (p := ⟨w.heap.size, 4, none⟩) (by dsimp only; omega)).trans q4, (hW.cell (p := ⟨w.heap.size + 1, 6, none⟩) hz).trans c6, (hW.cell (p := ⟨b', o' + i, none⟩) hb').trans i0⟩
      have hS0 := hSW _ (Below.refl _ wo).drew
      have hcall := fun W (hW : Below wo.heap.size wo W) => HF.out W id (bthen A.out.2.1 hW)
      clear q0 q1 q2 q3 q4 r0 r1 r2 r3 r4 c0 c1 c2 c3 c4 c5 c7 c8 i0
      rcases idxL_cases (ls.map LedgerR.d) id with ⟨h1, h2⟩ | ⟨kk, l, h1, h2, h3⟩
      · rw [h1] at hcall
        have HIX : Hid _ := h1
        clear h1 h2
        go_wp2_with fail
        clear c6
        go_region_held3 (fun w' => w'.cell? ⟨w.heap.size, 0, none⟩ = some (.int .u64 pv) ∧ w'.cell? ⟨w.heap.size, 1, none⟩ = some (.int .u64 pn) ∧ w'.cell? ⟨w.heap.size, 2, none⟩ = some (.slice (some ⟨b, off, none⟩) cs.length cc) ∧ w'.cell? ⟨w.heap.size, 3, none⟩ = some (.slice la ls.length lc) ∧ w'.cell? ⟨w.heap.size, 4, none⟩ = some (.slice pa ps.length pc) ∧ w'.cell? ⟨w.heap.size + 1, 6, none⟩ = some (.slice (some ⟨b', o', none⟩) is.length icp) ∧ w'.cell? ⟨b', o' + i, none⟩ = some (.int .u64 id)) (first | (with_reducible exact hS3) | (with_reducible exact hS0)) (first | (go_at_call 68; (with_reducible refine (hcall wo.drew ?_).mono ?_); exact (Below.refl _ _).drew; rintro x w3 ⟨rfl, hbb3⟩; have hB3 : Below wo.heap.size wo w3 := bthen (Below.refl _ _).drew hbb3; have hS3 := hSW _ hB3))
        have P3 := box_mono A.out.2.2.1 hB3
        have C3 := box_mono A.out.2.2.2 hB3
        have B3 := bthen A.out.2.1 hB3
        have HP3 : Aside _ := P3
        have HC3 : Aside _ := C3
        have HB3 : Aside _ := B3
        have bd : ∀ m, Below w3.heap.size w3 (w3.drewN m) := fun m => ⟨rfl, rfl, rfl, Nat.le_refl _, fun _ _ => rfl⟩
        clear hS0 hS3 hSW hbb3 hB3 P3 C3 B3
        go_wp2_with fail
        go_quiet (fail)
        go_wp2
        go_ret
        exact tells_no (BAD.out (fun h => by have h9 := (h _ HID.out).1; rw [HIX.out] at h9; exact absurd h9 (by decide))) (bthen HB3.out (bd _))
      · rw [h2] at hcall
        obtain ⟨m, hm, hml⟩ := get_d h1
        have hkl := (List.getElem?_eq_some_iff.1 hm).1
        have HCL : Hid (l.closed = m.closed) := by rw [← hml]; rfl
        have HFL : Hid (findL (ls.map LedgerR.d) id = some l) := h3
        have HIX : Hid (0 ≤ idxL (ls.map LedgerR.d) id) := by show 0 ≤ _; rw [h2]; omega
        obtain ⟨b2, o2, m', ha2, hy2, hb2, hat2, _⟩ := HLS.out.get (j := kk) hkl
        dsimp only at ha2 hy2
        have hmm : m' = m := by rw [hm] at hy2; exact (Option.some.inj hy2).symm
        subst hmm
        have l4 := (at_ledger hat2).2.2.2.2.1
        simp only [show eLedger.k = 6 from rfl] at l4
        subst ha2
        clear h1 h2 h3 hm hml hy2 hat2
        have hkz : (kk : Int) < (ls.length : Int) := by omega
        have hkk0 : (0 : Int) ≤ (kk : Int) := by omega
        have hkkn : ¬ (kk : Int) < 0 := by omega
        have hkkd : decide ((kk : Int) < 0) = false := decide_eq_false (by omega)
        go_wp2_with fail
        clear c6
        go_region_held3 (fun w' => w'.cell? ⟨w.heap.size, 0, none⟩ = some (.int .u64 pv) ∧ w'.cell? ⟨w.heap.size, 1, none⟩ = some (.int .u64 pn) ∧ w'.cell? ⟨w.heap.size, 2, none⟩ = some (.slice (some ⟨b, off, none⟩) cs.length cc) ∧ w'.cell? ⟨w.heap.size, 3, none⟩ = some (.slice (some ⟨b2, o2, none⟩) ls.length lc) ∧ w'.cell? ⟨w.heap.size, 4, none⟩ = some (.slice pa ps.length pc) ∧ w'.cell? ⟨w.heap.size + 1, 6, none⟩ = some (.slice (some ⟨b', o', none⟩) is.length icp) ∧ w'.cell? ⟨b', o' + i, none⟩ = some (.int .u64 id)) (first | (with_reducible exact hS3) | (with_reducible exact hS0)) (first | (go_at_call 68; (with_reducible refine (hcall wo.drew ?_).mono ?_); exact (Below.refl _ _).drew; rintro x w3 ⟨rfl, hbb3⟩; have hB3 : Below wo.heap.size wo w3 := bthen (Below.refl _ _).drew hbb3; have hS3 := hSW _ hB3))
        have P3 := box_mono A.out.2.2.1 hB3
        have C3 := box_mono A.out.2.2.2 hB3
        have B3 := bthen A.out.2.1 hB3
        have HP3 : Aside _ := P3
        have HC3 : Aside _ := C3
        have HB3 : Aside _ := B3
        have bd : ∀ m, Below w3.heap.size w3 (w3.drewN m) := fun m => ⟨rfl, rfl, rfl, Nat.le_refl _, fun _ _ => rfl⟩
        have l43 := (B3.cell (p := ⟨b2, o2 + kk * 6 + 4, none⟩) hb2).trans l4
        obtain ⟨q0, q1, q2, q3, q4, -, -, -, -, -⟩ := cells5 P3
        obtain ⟨-, -, -, -, -, -, c6, -, -, -, -, -, -, -, -, -, -, -⟩ := cells9 C3
        have i3 := hS3.2.2.2.2.2.2
        have hz3 := box_lt C3
        clear hS0 hS3 hSW hbb3 hB3 P3 C3 B3 l4 hz
        have hpre : i = 0 ∨ ∃ j : Nat, i = j + 1 := by cases i with
          | zero => exact .inl rfl
          | succ j => exact .inr ⟨j, rfl⟩
        rcases hpre with h0 | ⟨j, hj⟩
        · have hdB : decide ((i : Int) > 0) = false := decide_eq_false (by omega)
          have hdBn : decide (0 < i) = false := decide_eq_false (by omega)
          have HPREV : Aside (∀ (j : Nat) (y : Int), j + 1 = i → is[j]? = some y → y < id) := fun j y h => by omega
          clear h0
          by_cases hD : i + 1 < is.length
          · have hDn : decide (i + 1 < is.length) = true := decide_eq_true hD
            have hDz : decide ((i : Int) + 1 < (is.length : Int)) = true := decide_eq_true (by omega)
            by_cases hc0 : m'.closed = 0
            · have hcb : (m'.closed == 0) = true := by simpa using hc0
              have HC0 : Hid (m'.closed = 0) := hc0
              clear hc0
              go_wp2_with fail
              go_quiet (fail)
              go_wp2
              go_ret
              exact tells_no (BAD.out (fun h => (h _ HID.out).2.2 hD _ HFL.out (HCL.out.trans HC0.out))) (bthen HB3.out (bd _))
            · have hcb : (m'.closed == 0) = false := by simpa using hc0
              have HC0 : Hid (m'.closed ≠ 0) := hc0
              clear hc0
              go_wp2_with fail
              go_quiet (fail)
              go_wp2
              go_roundg (is.length - (i + 1))
              case measure => omega
              case rel =>
                refine ⟨i + 1, by omega, by omega, by go_num, fun j' hj' => ?_, bthen HB3.out (bd _), box_mono HP3.out (bd _), box_mono HC3.out (bd _)⟩
                by_cases he : j' = i
                · subst he
                  intro id' hid'
                  have := HID.out.symm.trans hid'
                  cases this
                  exact ⟨HIX.out, HPREV.out, fun _ l' hl' => by have := HFL.out.symm.trans hl'; cases this; rw [HCL.out]; exact HC0.out⟩
                · exact A.out.1 j' (by omega)
          · have hDn : decide (i + 1 < is.length) = false := decide_eq_false hD
            have hDz : decide ((i : Int) + 1 < (is.length : Int)) = false := decide_eq_false (by omega)
            go_wp2_with fail
            go_quiet (fail)
            go_wp2
            go_roundg (is.length - (i + 1))
            case measure => omega
            case rel =>
              refine ⟨i + 1, by omega, by omega, by go_num, fun j' hj' => ?_, bthen HB3.out (bd _), box_mono HP3.out (bd _), box_mono HC3.out (bd _)⟩
              by_cases he : j' = i
              · subst he
                intro id' hid'
                have := HID.out.symm.trans hid'
                cases this
                exact ⟨HIX.out, HPREV.out, fun h => absurd h (by omega)⟩
              · exact A.out.1 j' (by omega)
        · have hdB : decide ((i : Int) > 0) = true := decide_eq_true (by omega)
          have hdBn : decide (0 < i) = true := decide_eq_true (by omega)
          obtain ⟨b5, o5, idp, ha5, hy5, _, hat5, _⟩ := (HLOK.out.mono HB3.out).get (j := j) (show j < is.length by omega)
          have j0 := at_u64 hat5
          dsimp only at ha5 hy5
          simp only [show eU64.k = 1 from rfl, Nat.mul_one] at j0
          cases ha5
          have hwj : IntKind.i64.wrap ((i : Int) - 1) = (j : Int) := by rw [wrap_i64 (by omega) (by omega)]; omega
          have hj0 : (0 : Int) ≤ (j : Int) := by omega
          have hjl : (j : Int) < (is.length : Int) := by omega
          have HJ : Hid (i = j + 1) := hj
          have HG : Hid _ := hy5
          clear hj hy5 hat5
          by_cases hC : id ≤ idp
          · have hdC : decide (id ≤ idp) = true := decide_eq_true hC
            go_wp2_with fail
            go_quiet (fail)
            go_wp2
            go_ret
            exact tells_no (BAD.out (fun h => by have := (h _ HID.out).2.1 j idp HJ.out.symm HG.out; omega)) (bthen HB3.out (bd _))
          have hdC : decide (id ≤ idp) = false := decide_eq_false hC
          have HPREV : Aside (∀ (j : Nat) (y : Int), j + 1 = i → is[j]? = some y → y < id) := fun j' y' h h2 => by
            have h3 := HJ.out
            obtain rfl : j' = j := by omega
            have := HG.out.symm.trans h2
            cases this
            omega
          by_cases hD : i + 1 < is.length
          · have hDn : decide (i + 1 < is.length) = true := decide_eq_true hD
            have hDz : decide ((i : Int) + 1 < (is.length : Int)) = true := decide_eq_true (by omega)
            by_cases hc0 : m'.closed = 0
            · have hcb : (m'.closed == 0) = true := by simpa using hc0
              have HC0 : Hid (m'.closed = 0) := hc0
              clear hc0
              go_wp2_with fail
              go_quiet (fail)
              go_wp2
              go_ret
              exact tells_no (BAD.out (fun h => (h _ HID.out).2.2 hD _ HFL.out (HCL.out.trans HC0.out))) (bthen HB3.out (bd _))
            · have hcb : (m'.closed == 0) = false := by simpa using hc0
              have HC0 : Hid (m'.closed ≠ 0) := hc0
              clear hc0
              go_wp2_with fail
              go_quiet (fail)
              go_wp2
              go_roundg (is.length - (i + 1))
              case measure => omega
              case rel =>
                refine ⟨i + 1, by omega, by omega, by go_num, fun j' hj' => ?_, bthen HB3.out (bd _), box_mono HP3.out (bd _), box_mono HC3.out (bd _)⟩
                by_cases he : j' = i
                · subst he
                  intro id' hid'
                  have := HID.out.symm.trans hid'
                  cases this
                  exact ⟨HIX.out, HPREV.out, fun _ l' hl' => by have := HFL.out.symm.trans hl'; cases this; rw [HCL.out]; exact HC0.out⟩
                · exact A.out.1 j' (by omega)
          · have hDn : decide (i + 1 < is.length) = false := decide_eq_false hD
            have hDz : decide ((i : Int) + 1 < (is.length : Int)) = false := decide_eq_false (by omega)
            go_wp2_with fail
            go_quiet (fail)
            go_wp2
            go_roundg (is.length - (i + 1))
            case measure => omega
            case rel =>
              refine ⟨i + 1, by omega, by omega, by go_num, fun j' hj' => ?_, bthen HB3.out (bd _), box_mono HP3.out (bd _), box_mono HC3.out (bd _)⟩
              by_cases he : j' = i
              · subst he
                intro id' hid'
                have := HID.out.symm.trans hid'
                cases this
                exact ⟨HIX.out, HPREV.out, fun h => absurd h (by omega)⟩
              · exact A.out.1 j' (by omega)
    · have hltz : ¬ (i : Int) < (is.length : Int) := by omega
      have IDS : Hid (∀ j, j < is.length → IdGood (ls.map LedgerR.d) is j) := fun j hj => A.out.1 j (by omega)
      go_wp2_with fail
      refine (HE.out _ A.out.2.1).mono ?_
      rintro e w3 ⟨rfl, hb3⟩
      have P3 := box_mono A.out.2.2.1 hb3
      have C3 := box_mono A.out.2.2.2 hb3
      have B3 := bthen A.out.2.1 hb3
      clear q0 q1 q2 q3 q4 r0 r1 r2 r3 r4 c0 c1 c2 c3 c4 c5 c6 c7 c8 hz
      obtain ⟨q0, q1, q2, q3, q4, -, -, -, -, -⟩ := cells5 P3
      have hz := box_lt C3
      have HP3 : Aside _ := P3
      have HC3 : Aside _ := C3
      have HB3 : Aside _ := B3
      clear hb3 P3 C3 B3 A
      dsimp only
      go_wp2_with fail
      refine (HO.out _ HB3.out).mono ?_
      rintro e w4 ⟨v, rfl, hv, hvo, hb4⟩
      have P4 := box_mono HP3.out hb4
      have C4 := box_mono HC3.out hb4
      have B4 := bthen HB3.out hb4
      clear q0 q1 q2 q3 q4 hz
      obtain ⟨q0, q1, q2, q3, q4, -, -, -, -, -⟩ := cells5 P4
      obtain ⟨c0, c1, c2, c3, c4, c5, c6, c7, c8, -, -, -, -, -, -, -, -, -⟩ := cells9 C4
      have hz := box_lt C4
      have HP4 : Aside _ := P4
      have HC4 : Aside _ := C4
      have HB4 : Aside _ := B4
      have HV : Hid _ := hvo
      clear hb4 P4 C4 B4 HP3 HC3 HB3 hvo hv
      have hwe : IntKind.u64.wrap (EN + 8) = E8 := by rw [← HE8.out]; exact wrap_addU _ _
      dsimp only
      go_upto_if 144 with (fail)
      go_cut [9] (fun s9 wc => ∃ MO, s9 = .int .u64 MO ∧ Aside (MO = if OP.isSome then E8 else EN) ∧ w4 = wc)
      case first =>
        by_cases hv0 : 0 ≤ v
        · have hd : decide (v ≥ 0) = true := decide_eq_true hv0
          have h1 : OP.isSome = true := by rw [← HV.out]; exact decide_eq_true hv0
          have H1 : Hid _ := h1
          clear h1
          go_wp2
          go_meet
          case rel => exact ⟨E8, rfl, by show E8 = _; rw [H1.out, if_pos rfl], rfl⟩
        · have hd : decide (v ≥ 0) = false := decide_eq_false hv0
          have h1 : OP.isSome = false := by rw [← HV.out]; exact decide_eq_false hv0
          have H1 : Hid _ := h1
          clear h1
          go_wp2
          go_meet
          case rel => exact ⟨EN, rfl, by show EN = _; rw [H1.out]; rfl, rfl⟩
      case rest =>
        obtain ⟨MO, rfl, HMO, rfl⟩ := hcut
        have TR : Aside (R → fi ≤ tr ∧ tr ≤ MO ∧ E8 ≤ 4611686018427387903) := fun h => by
          have h1 := (HR.out.1 h).2.2.1
          rw [HE8.out] at h1
          rw [HMO.out]
          exact h1
        go_wp2_with fail
        all_goals try (go_ret; exact tells_no (fun h => by have h1 := TR.out h; omega) HB4.out)
        have TRIM : Hid (fi ≤ tr ∧ tr ≤ (if OP.isSome then E8 else EN) ∧ E8 ≤ 4611686018427387903) := by rw [← HMO.out]; refine ⟨?_, ?_, ?_⟩ <;> omega
        refine (refMarks170 ⟨sa, sc, ss⟩ _ (HSOK.out.mono HB4.out)).mono ?_
        rintro e w5 ⟨rm, rfl, hrm, hb5⟩
        have P5 := box_mono HP4.out hb5
        have C5 := box_mono HC4.out hb5
        have B5 := bthen HB4.out hb5
        have HP5 : Aside _ := P5
        have HC5 : Aside _ := C5
        have HB5 : Aside _ := B5
        obtain ⟨-, -, -, -, -, -, -, d7, -, -, -, -, -, -, -, -, -, -⟩ := cells9 C5
        have hz5 := box_lt C5
        have HRM : Hid _ := hrm
        clear hb5 P5 C5 B5 HP4 HC4 HB4 hrm q0 q1 q2 q3 q4 c0 c1 c2 c3 c4 c5 c6 c7 c8 hz TR HMO
        dsimp only
        cases rm with
        | false =>
          have HRF : Aside (¬ MarksGood ss) := fun h => by have := HRM.out.2 h; cases this
          clear HRM
          go_wp2
          go_ret
          exact tells_no (fun h => HRF.out (HR.out.1 h).2.2.2.1) HB5.out
        | true =>
          have MG : Aside (MarksGood ss) := HRM.out.1 rfl
          clear HRM
          go_wp2_with fail
          clear d7
          go_loopg [10] ss.length (fun gg s10 wr => ∃ i : Nat, i ≤ ss.length ∧ ss.length - i ≤ gg ∧ s10 = .int .i64 i ∧ Aside ((∀ (j : Nat) (x : Mark), j < i → ss[j]? = some x → x.offset < fi) ∧ Below w.heap.size w wr ∧ wr.heap[w.heap.size]? = some (.cells #[.int .u64 pv, .int .u64 pn, .slice (some ⟨b, off, none⟩) cs.length cc, .slice la ls.length lc, .slice pa ps.length pc] 27 (0, 0)) ∧ wr.heap[w.heap.size + 1]? = some (.cells #[.int .u64 ep, .int .i64 ow, .int .u64 ic, .int .u64 re, .int .u64 fi, .int .u64 tr, .slice ia is.length icp, .slice sa ss.length sc, .slice ua us.length uc] 42 (0, 0))))
          case atStart => exact ⟨0, Nat.zero_le _, by omega, rfl, fun j x hj => absurd hj (Nat.not_lt_zero _), HB5.out, HP5.out, HC5.out⟩
          case round =>
            obtain ⟨i, hi, hg, rfl, A⟩ := hrel
            obtain ⟨wo, rfl⟩ : ∃ wo : World, wo = wr := ⟨_, rfl⟩
            have bd : ∀ m, Below wo.heap.size wo (wo.drewN m) := fun m => ⟨rfl, rfl, rfl, Nat.le_refl _, fun _ _ => rfl⟩
            obtain ⟨-, -, -, -, c4, -, -, c7, c8, -, -, -, -, -, -, -, -, -⟩ := cells9 A.out.2.2.2
            have hz := box_lt A.out.2.2.2
            by_cases hlt2 : i < ss.length
            · obtain ⟨b', o', x, ha', hy', hb', hat', _⟩ := (HSOK.out.mono A.out.2.1).get (j := i) hlt2
              have i2 := (at_mark hat').2.2
              dsimp only at ha' hy'
              simp only [show eMark.k = 3 from rfl] at i2
              subst ha'
              obtain ⟨xp, xq, xo⟩ := x
              dsimp only at i2
              have HY : Hid _ := hy'
              have hltz : (i : Int) < (ss.length : Int) := by omega
              have hi0 : (0 : Int) ≤ (i : Int) := by omega
              clear hat' hy'
              by_cases hx : fi ≤ xo
              · have hd : decide (xo ≥ fi) = true := decide_eq_true hx
                go_wp2_with fail
                go_quiet (fail)
                go_wp2
                go_ret
                exact tells_no (fun h => by have := (HR.out.1 h).2.2.2.2.1 i _ HY.out; dsimp only at this; omega) (bthen A.out.2.1 (bd _))
              · have hd : decide (xo ≥ fi) = false := decide_eq_false hx
                have HX : Hid (xo < fi) := by show xo < fi; omega
                clear hx
                go_wp2_with fail
                go_quiet (fail)
                go_wp2
                go_roundg (ss.length - (i + 1))
                case measure => omega
                case rel =>
                  refine ⟨i + 1, by omega, by omega, by go_num, fun j' x' hj' hx' => ?_, bthen A.out.2.1 (bd _), box_mono A.out.2.2.1 (bd _), box_mono A.out.2.2.2 (bd _)⟩
                  by_cases he : j' = i
                  · subst he
                    have := HY.out.symm.trans hx'
                    cases this
                    exact HX.out
                  · exact A.out.1 j' x' (by omega) hx'
            · have hltz : ¬ (i : Int) < (ss.length : Int) := by omega
              have OFFS : Aside (∀ (j : Nat) (x : Mark), ss[j]? = some x → x.offset < fi) := fun j x hj => A.out.1 j x (by have := (List.getElem?_eq_some_iff.1 hj).1; omega) hj
              have HP5 : Aside _ := A.out.2.2.1
              have HC5 : Aside _ := A.out.2.2.2
              have HB5 : Aside _ := A.out.2.1
              clear A hlt2
              go_wp2_with fail
              clear c4 c7 c8 hz bd
              go_loopg [11] us.length (fun gg s11 wr => ∃ i : Nat, i ≤ us.length ∧ us.length - i ≤ gg ∧ s11 = .int .i64 i ∧ Aside ((∀ j, j < i → CursorGood us j) ∧ Below w.heap.size w wr ∧ wr.heap[w.heap.size]? = some (.cells #[.int .u64 pv, .int .u64 pn, .slice (some ⟨b, off, none⟩) cs.length cc, .slice la ls.length lc, .slice pa ps.length pc] 27 (0, 0)) ∧ wr.heap[w.heap.size + 1]? = some (.cells #[.int .u64 ep, .int .i64 ow, .int .u64 ic, .int .u64 re, .int .u64 fi, .int .u64 tr, .slice ia is.length icp, .slice sa ss.length sc, .slice ua us.length uc] 42 (0, 0))))
              case atStart => exact ⟨0, Nat.zero_le _, by omega, rfl, fun j hj => absurd hj (Nat.not_lt_zero _), HB5.out, HP5.out, HC5.out⟩
              case round =>
                obtain ⟨i, hi, hg, rfl, A⟩ := hrel
                obtain ⟨wo, rfl⟩ : ∃ wo : World, wo = wr := ⟨_, rfl⟩
                obtain ⟨-, -, -, -, -, -, -, -, c8, -, -, -, -, -, -, -, -, -⟩ := cells9 A.out.2.2.2
                have hz := box_lt A.out.2.2.2
                by_cases hlt2 : i < us.length
                · obtain ⟨b', o', x, ha', hy', hb', hat', _⟩ := (HCOK.out.mono A.out.2.1).get (j := i) hlt2
                  obtain ⟨i0, i1⟩ := at_cursor hat'
                  dsimp only at ha' hy'
                  simp only [show eCursor.k = 2 from rfl] at i0 i1
                  subst ha'
                  obtain ⟨xs', xa⟩ := x
                  dsimp only at i0 i1
                  have HY : Hid _ := hy'
                  have hltz : (i : Int) < (us.length : Int) := by omega
                  have hi0 : (0 : Int) ≤ (i : Int) := by omega
                  have bad : ¬ CursorGood us i → ¬ R := fun h hr => h ((HR.out.1 hr).2.2.2.2.2 i hlt2)
                  have BAD : Aside _ := bad
                  clear hat' hy' bad
                  go_upto_region 31 with (fail)
                  have X6 := heap_top wo (.cells #[.int .i64 xs', .int .u64 xa] 151) _ rfl
                  have P6 := box_mono A.out.2.2.1 (b1 wo (.cells #[.int .i64 xs', .int .u64 xa] 151))
                  have C6 := box_mono A.out.2.2.2 (b1 wo (.cells #[.int .i64 xs', .int .u64 xa] 151))
                  have B6 := balloc A.out.2.1 (.cells #[.int .i64 xs', .int .u64 xa] 151)
                  obtain ⟨w6, hw6⟩ : ∃ w6, wo.alloc (.cells #[.int .i64 xs', .int .u64 xa] 151) = w6 := ⟨_, rfl⟩
                  rw [hw6] at X6 P6 C6 B6 ⊢
                  have bd : ∀ m, Below w6.heap.size w6 (w6.drewN m) := fun m => ⟨rfl, rfl, rfl, Nat.le_refl _, fun _ _ => rfl⟩
                  obtain ⟨x0, x1, -, -⟩ := cells2 X6
                  obtain ⟨-, -, -, -, -, -, -, -, c86, -, -, -, -, -, -, -, -, -⟩ := cells9 C6
                  have HP6 : Aside _ := P6
                  have HC6 : Aside _ := C6
                  have HB6 : Aside _ := B6
                  clear hw6 X6 P6 C6 B6 c8 i0 i1 hz
                  by_cases g1 : xs' < 1
                  · have hd1 : decide (xs' < 1) = true := decide_eq_true g1
                    go_wp2_with fail
                    go_quiet (fail)
                    go_wp2
                    go_ret
                    exact tells_no (BAD.out (fun h => by have := (h _ HY.out).1; dsimp only at this; omega)) (bthen HB6.out (bd _))
                  have hd1 : decide (xs' < 1) = false := decide_eq_false g1
                  by_cases g2 : 3 < xs'
                  · have hd2 : decide (xs' > 3) = true := decide_eq_true g2
                    go_wp2_with fail
                    go_quiet (fail)
                    go_wp2
                    go_ret
                    exact tells_no (BAD.out (fun h => by have := (h _ HY.out).2.1; dsimp only at this; omega)) (bthen HB6.out (bd _))
                  have hd2 : decide (xs' > 3) = false := decide_eq_false g2
                  by_cases g3 : 4611686018427387903 < xa
                  · have hd3 : decide (xa > 4611686018427387903) = true := decide_eq_true g3
                    go_wp2_with fail
                    go_quiet (fail)
                    go_wp2
                    go_ret
                    exact tells_no (BAD.out (fun h => by have := (h _ HY.out).2.2.1; dsimp only at this; omega)) (bthen HB6.out (bd _))
                  have hd3 : decide (xa > 4611686018427387903) = false := decide_eq_false g3
                  have G : Hid (1 ≤ xs' ∧ xs' ≤ 3 ∧ xa ≤ 4611686018427387903) := by refine ⟨?_, ?_, ?_⟩ <;> omega
                  have hpre : i = 0 ∨ ∃ j : Nat, i = j + 1 := by cases i with
                    | zero => exact .inl rfl
                    | succ j => exact .inr ⟨j, rfl⟩
                  rcases hpre with h0 | ⟨j, hj⟩
                  · have hdB : decide ((i : Int) > 0) = false := decide_eq_false (by omega)
                    have hdBn : decide (0 < i) = false := decide_eq_false (by omega)
                    have HPREV : Aside (∀ (j : Nat) (y : Cursor), j + 1 = i → us[j]? = some y → y.sub < xs') := fun j y h => by omega
                    clear h0
                    go_wp2_with fail
                    go_quiet (fail)
                    go_wp2
                    go_roundg (us.length - (i + 1))
                    case measure => omega
                    case rel =>
                      refine ⟨i + 1, by omega, by omega, by go_num, fun j' hj' => ?_, bthen HB6.out (bd _), box_mono HP6.out (bd _), box_mono HC6.out (bd _)⟩
                      by_cases he : j' = i
                      · subst he
                        intro x' hx'
                        have := HY.out.symm.trans hx'
                        cases this
                        obtain ⟨g1, g2, g3⟩ := G.out
                        exact ⟨g1, g2, g3, HPREV.out⟩
                      · exact A.out.1 j' (by omega)
                  · have hdB : decide ((i : Int) > 0) = true := decide_eq_true (by omega)
                    have hdBn : decide (0 < i) = true := decide_eq_true (by omega)
                    obtain ⟨b5, o5, yp, ha5, hy5, _, hat5, _⟩ := (HCOK.out.mono HB6.out).get (j := j) (show j < us.length by omega)
                    have j0 := (at_cursor hat5).1
                    dsimp only at ha5 hy5
                    simp only [show eCursor.k = 2 from rfl] at j0
                    cases ha5
                    have hwj : IntKind.i64.wrap ((i : Int) - 1) = (j : Int) := by rw [wrap_i64 (by omega) (by omega)]; omega
                    have hj0 : (0 : Int) ≤ (j : Int) := by omega
                    have hjl : (j : Int) < (us.length : Int) := by omega
                    have HJ : Hid (i = j + 1) := hj
                    have HG : Hid _ := hy5
                    clear hj hy5 hat5
                    by_cases hC : xs' ≤ yp.sub
                    · have hdC : decide (xs' ≤ yp.sub) = true := decide_eq_true hC
                      go_wp2_with fail
                      go_quiet (fail)
                      go_wp2
                      go_ret
                      exact tells_no (BAD.out (fun h => by have := (h _ HY.out).2.2.2 j yp HJ.out.symm HG.out; dsimp only at this; omega)) (bthen HB6.out (bd _))
                    have hdC : decide (xs' ≤ yp.sub) = false := decide_eq_false hC
                    have HPREV : Aside (∀ (j : Nat) (y : Cursor), j + 1 = i → us[j]? = some y → y.sub < xs') := fun j' y' h h2 => by
                      have h3 := HJ.out
                      obtain rfl : j' = j := by omega
                      have := HG.out.symm.trans h2
                      cases this
                      omega
                    go_wp2_with fail
                    go_quiet (fail)
                    go_wp2
                    go_roundg (us.length - (i + 1))
                    case measure => omega
                    case rel =>
                      refine ⟨i + 1, by omega, by omega, by go_num, fun j' hj' => ?_, bthen HB6.out (bd _), box_mono HP6.out (bd _), box_mono HC6.out (bd _)⟩
                      by_cases he : j' = i
                      · subst he
                        intro x' hx'
                        have := HY.out.symm.trans hx'
                        cases this
                        obtain ⟨g1, g2, g3⟩ := G.out
                        exact ⟨g1, g2, g3, HPREV.out⟩
                      · exact A.out.1 j' (by omega)
                · have hltz : ¬ (i : Int) < (us.length : Int) := by omega
                  go_wp2
                  go_ret
                  exact tells_yes (HR.out.2 ⟨PRE.out, IDS.out, by rw [HE8.out]; exact TRIM.out, MG.out, OFFS.out, fun j hj => A.out.1 j (by omega)⟩) A.out.2.1

theorem refChan114 (p : PlanR) (k : Nat) (c : ChannelR) (w : World) (hp : p.Ok w) (hkl : p.channels.xs[k]? = some c) : Calls Tryz.prog 114 #[p.v, .int .i64 ((k : Int) + 1)] w (Tells (RefChan p.d.ledgers c.d) w) := by
  have hok := hp.channels.ok c (List.mem_of_getElem? hkl)
  have h0 := hok.epoch.1
  by_cases h1 : c.epoch = 0
  · by_cases h2 : c.owner = 0 ∧ c.inc = 0 ∧ c.ledgers.xs.length = 0
    · exact chan_zero p k c w hp hkl ⟨h1, h2⟩
    · exact chan_bad p k c w hp hkl ⟨h1, h2⟩
  · exact chan_pos p k c w hp hkl (by omega)
end Go.Proofs.YtdiamknibfamdaaGreat
