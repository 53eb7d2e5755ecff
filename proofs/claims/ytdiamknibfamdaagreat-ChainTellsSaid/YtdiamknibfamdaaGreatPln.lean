/- A plan's channel: its end, what is open. -/
import Derived.Test.YtdiamknibfamdaaGreatLed
import Derived.Test.YtdiamknibfamdaaGreatSmall
import Derived.Deep.RegionHeld3
namespace Go.Proofs.YtdiamknibfamdaaGreat
open Go.RowKit Go.Shelf

/-- Is there such a channel? -/
def hasB (n channel : Int) : Bool := fromB channel 1 n
theorem has78 (p : PlanR) (ch : Int) (w : World) : Calls Tryz.prog 78 #[p.v, .int .i64 ch] w fun e w' => e = .returned (.bool (hasB p.channels.xs.length ch)) ∧ Below w.heap.size w w' := by
  obtain ⟨pv, pn, ⟨ca, cc, cs⟩, ⟨la, lc, ls⟩, ⟨pa, pc, ps⟩⟩ := p
  by_cases h1 : 1 ≤ ch <;> by_cases h2 : ch ≤ (cs.length : Int)
  all_goals
    go_enter Tryz.func78, Tryz.ntmps78
    go_wp2
    go_ret
    exact ⟨by simp [hasB, fromB, *], b1 _ _⟩

theorem found_last {l' : LedgerR} {ls : List Ledger} {id : Int} (h : l'.d = (findL ls id).getD ⟨0, 0, 0, [], 0, 0⟩) : l'.last = lastOf ls id := by
  have h2 : l'.d.last = lastOf ls id := by
    rw [h]
    unfold lastOf
    cases findL ls id <;> rfl
  exact h2

/-- The end of a plan's channel. -/
def endAt (p : Plan) (ch : Int) : Int := if hasB p.channels.length ch then endOf p.ledgers (p.channels.getD (ch - 1).toNat default) else 0
def endTo (ls : List Ledger) (e : Int) (ids : List Int) : Int := ids.foldl (fun e id => addU e (lastOf ls id)) e

theorem box_mono {W W' : World} {o : Obj} {k : Nat} (h : W.heap[k]? = some o) (hb : Below W.heap.size W W') : W'.heap[k]? = some o :=
  (hb.block k (Array.getElem?_eq_some_iff.1 h).1).trans h
theorem box_lt {W : World} {o : Obj} {k : Nat} (h : W.heap[k]? = some o) : k < W.heap.size := (Array.getElem?_eq_some_iff.1 h).1

theorem wrap_i64 {x : Int} (h0 : -9223372036854775808 ≤ x) (h1 : x ≤ 9223372036854775807) : IntKind.i64.wrap x = x := by
  have : IntKind.i64.wrap x = (x + 9223372036854775808) % 18446744073709551616 - 9223372036854775808 := by
    unfold IntKind.wrap
    simp [IntKind.signed, IntKind.bits]
    split <;> omega
  rw [this]
  omega
theorem wrap_addU (a b : Int) : IntKind.u64.wrap (a + b) = addU a b := by
  unfold addU IntKind.wrap
  simp [IntKind.signed, IntKind.bits]

set_option maxHeartbeats 2000000 in
set_option maxRecDepth 100000 in
theorem end34 (p : PlanR) (ch : Int) (w : World) (hp : p.Ok w) (hb : PlanSmall p) (hI : I64 ch) : Calls Tryz.prog 34 #[p.v, .int .i64 ch] w fun e w' => e = .returned (.int .u64 (endAt p.d ch)) ∧ Below w.heap.size w w' := by
  have hhas := fun W => has78 p ch W
  have hfind := fun W id (hW : Below w.heap.size w W) => find42 p id W (hp.mono hW) hb
  have hcap := hp.channels.cap
  have hle := hp.channels.le
  have e0 : endAt p.d ch = if hasB p.channels.xs.length ch then endOf p.d.ledgers (p.d.channels.getD (ch - 1).toNat default) else 0 := by
    show (if hasB p.d.channels.length ch then _ else _) = _
    simp [PlanR.d]
  cases hh : hasB p.channels.xs.length ch with
  | false =>
    simp only [hh] at hhas e0
    generalize endAt p.d ch = r at e0 ⊢
    have E0 : Hid _ := e0
    clear e0 hfind hp hb
    obtain ⟨pv, pn, ⟨ca, cc, cs⟩, ⟨la, lc, ls⟩, ⟨pa, pc, ps⟩⟩ := p
    go_enter Tryz.func34, Tryz.ntmps34
    go_wp2_with (go_at_call 78; refine (hhas _).mono ?_; rintro e w' ⟨rfl, hb'⟩)
    go_ret
    exact ⟨ret_u64 (by rw [E0.out]; rfl), bthen (b1 _ _) hb'⟩
  | true =>
    simp only [hh] at hhas e0
    simp only [hasB, fromB, Bool.and_eq_true, decide_eq_true_eq] at hh
    obtain ⟨k, rfl⟩ : ∃ k : Nat, ch = (k : Int) + 1 := ⟨(ch - 1).toNat, by omega⟩
    have hkl : k < p.channels.xs.length := by omega
    obtain ⟨b, off, c, ha, hy, hbk, hat, hok⟩ := hp.channels.get (j := k) hkl
    have hk3 : ((k : Int) + 1 - 1).toNat = k := by omega
    rw [hk3] at e0
    have e1 : (p.d.channels.getD k default) = c.d := by simp [PlanR.d, List.getD, hy]
    rw [e1] at e0
    have hlok := hok.ledgers
    obtain ⟨ep, ow, ic, re, fi, tr, ⟨ia, icp, is⟩, ⟨sa, sc, ss⟩, ⟨ua, uc, us⟩⟩ := c
    have e2 : endAt p.d ((k : Int) + 1) = endTo p.d.ledgers fi is := e0
    have hcell := at_channel hat
    simp only [show eChannel.k = 9 from rfl] at hcell
    clear e0 e1 hy hat hok
    generalize endAt p.d ((k : Int) + 1) = r at e2 ⊢
    have E0 : Hid _ := e2
    clear e2
    generalize p.d.ledgers = LS at hfind E0
    have hk0 : (0 : Int) ≤ (k : Int) + 1 - 1 := by omega
    have hk2 : (k : Int) + 1 - 1 < (p.channels.xs.length : Int) := by omega
    clear hp hb hh
    obtain ⟨pv, pn, ⟨ca, cc, cs⟩, ⟨la, lc, ls⟩, ⟨pa, pc, ps⟩⟩ := p
    dsimp only at ha hk2 hkl hcap hle hlok hhas hfind ⊢
    subst ha
    go_enter Tryz.func34, Tryz.ntmps34
    go_wp2_with fail
    refine (hhas _).mono ?_
    rintro e w1 ⟨rfl, hb1⟩
    have hB1 := box_mono (heap_top w _ _ rfl) hb1
    obtain ⟨q0, q1, q2, q3, q4, r0, r1, r2, r3, r4⟩ := cells5 hB1
    have hBW := bthen (b1 w _) hb1
    have hsz : w.heap.size < w1.heap.size := box_lt hB1
    obtain ⟨m0, m1, m2, m3, m4, m5, m6, m7, m8⟩ := hcell
    have n0 := (hBW.cell (p := ⟨b, off + k * 9, none⟩) hbk).trans m0
    have n1 := (hBW.cell (p := ⟨b, off + k * 9 + 1, none⟩) hbk).trans m1
    have n2 := (hBW.cell (p := ⟨b, off + k * 9 + 2, none⟩) hbk).trans m2
    have n3 := (hBW.cell (p := ⟨b, off + k * 9 + 3, none⟩) hbk).trans m3
    have n4 := (hBW.cell (p := ⟨b, off + k * 9 + 4, none⟩) hbk).trans m4
    have n5 := (hBW.cell (p := ⟨b, off + k * 9 + 5, none⟩) hbk).trans m5
    have n6 := (hBW.cell (p := ⟨b, off + k * 9 + 6, none⟩) hbk).trans m6
    have n7 := (hBW.cell (p := ⟨b, off + k * 9 + 7, none⟩) hbk).trans m7
    have n8 := (hBW.cell (p := ⟨b, off + k * 9 + 8, none⟩) hbk).trans m8
    have HB1 : Aside _ := hB1
    have HBW : Aside _ := hBW
    have HLOK : Aside _ := hlok
    clear m0 m1 m2 m3 m4 m5 m6 m7 m8 hb1 hB1 hBW hlok hhas
    dsimp only
    go_wp2_with fail
    go_loopg [6, 26] is.length (fun gg s6 s26 wr => ∃ (j : Nat) (e : Int), j ≤ is.length ∧ is.length - j ≤ gg ∧ s26 = .int .i64 j ∧ s6 = .int .u64 e ∧ Aside (endTo LS fi is = endTo LS e (is.drop j)) ∧ Aside (Below w.heap.size w wr) ∧ Aside (wr.heap[w.heap.size]? = some (.cells #[.int .u64 pv, .int .u64 pn, .slice (some ⟨b, off, none⟩) cs.length cc, .slice la ls.length lc, .slice pa ps.length pc] 27 (0, 0))))
    case atStart => exact ⟨0, fi, Nat.zero_le _, by omega, rfl, rfl, by simp [Aside], balloc HBW.out _, box_mono HB1.out (b1 _ _)⟩
    case round =>
      obtain ⟨j, e, hj, hg, rfl, rfl, A, BW, BX⟩ := hrel
      have BXo := BX.out
      obtain ⟨q0, q1, q2, q3, q4, r0, r1, r2, r3, r4⟩ := cells5 BXo
      have hlt1 := box_lt BXo
      have hcp := HLOK.out.cap
      have hlp := HLOK.out.le
      dsimp only at hcp hlp
      clear BXo
      by_cases hlt : j < is.length
      · obtain ⟨b', off', id, ha', hy', hb', hat', _⟩ := (HLOK.out.mono BW.out).get (j := j) hlt
        have hc' := at_u64 hat'
        dsimp only at ha' hy'
        simp only [show eU64.k = 1 from rfl, Nat.mul_one] at hc'
        subst ha'
        have hdr : is.drop j = id :: is.drop (j + 1) := by
          rw [List.drop_eq_getElem_cons hlt]
          congr 1
          exact (List.getElem?_eq_some_iff.1 hy').2
        have HDR : Hid _ := hdr
        clear hdr hat' hy'
        have hltz : (j : Int) < (is.length : Int) := by omega
        go_wp2_with fail
        refine (hfind wr id BW.out).mono ?_
        rintro x w3 ⟨⟨id', wd, ac, ⟨fa, fc, fx⟩, cl, la'⟩, rfl, hd, ho, _, hb3⟩
        have hla := found_last hd
        have hU : U64 la' := ho.2.2.2.2.2
        dsimp only at hla
        subst hla
        have BX3 := box_mono BX.out hb3
        have BW3 := bthen BW.out hb3
        have BX3' : Aside _ := BX3
        have BW3' : Aside _ := BW3
        clear hd ho BX3 BW3 BX BW hb3
        dsimp only
        go_wp2
        go_roundg (is.length - (j + 1))
        case measure => omega
        case rel => exact ⟨j + 1, addU e (lastOf LS id), by omega, by omega, by go_num, by rw [wrap_addU], by show endTo LS fi is = _; rw [A.out, HDR.out]; rfl, balloc BW3'.out _, box_mono BX3'.out (b1 _ _)⟩
      · have hltz : ¬ (j : Int) < (is.length : Int) := by omega
        go_wp2
        go_ret
        refine ⟨ret_u64 ?_, BW.out⟩
        rw [E0.out, A.out, List.drop_eq_nil_of_le (by omega)]
        rfl
/-- What is open of a plan's channel. -/
def openAt (p : Plan) (ch : Int) : Option Ledger := if hasB p.channels.length ch then openOf p.ledgers (p.channels.getD (ch - 1).toNat default) else none

theorem found_alloc {o : Option Ledger} {w wF : World} {e : Ending} (h : Found o w e wF) (b : Obj) : Found o w e (wF.alloc b) := by
  obtain ⟨l, he, hd, ho, hl, hb⟩ := h
  exact ⟨l, he, hd, eLedger.mono ho (b1 _ _), hl.below (b1 _ _), balloc hb _⟩
theorem open_none {w w1 wF : World} {lo hi : Nat} (hb : Below w.heap.size w w1) (hlo : w.heap.size ≤ lo) (hF : Far lo hi w1 wF) : Found none w (.returned (.tuple #[LedgerR.v ⟨0, 0, 0, ⟨none, 0, []⟩, 0, 0⟩, .bool false])) wF :=
  found_none hb hlo hF

set_option maxHeartbeats 2000000 in
set_option maxRecDepth 100000 in
theorem open41 (p : PlanR) (ch : Int) (w : World) (hp : p.Ok w) (hb : PlanSmall p) (hI : I64 ch) : Calls Tryz.prog 41 #[p.v, .int .i64 ch] w (Found (openAt p.d ch) w) := by
  have hhas := fun W => has78 p ch W
  have hfind := fun W id (hW : Below w.heap.size w W) => find42 p id W (hp.mono hW) hb
  have hcap := hp.channels.cap
  have hle := hp.channels.le
  have e0 : openAt p.d ch = if hasB p.channels.xs.length ch then openOf p.d.ledgers (p.d.channels.getD (ch - 1).toNat default) else none := by
    show (if hasB p.d.channels.length ch then _ else _) = _
    simp [PlanR.d]
  cases hh : hasB p.channels.xs.length ch with
  | false =>
    simp only [hh] at hhas e0
    rw [e0]
    clear e0 hfind hp hb
    obtain ⟨pv, pn, ⟨ca, cc, cs⟩, ⟨la, lc, ls⟩, ⟨pa, pc, ps⟩⟩ := p
    go_enter Tryz.func41, Tryz.ntmps41
    go_wp2_with fail
    refine (hhas _).mono ?_
    rintro e w1 ⟨rfl, hb'⟩
    obtain ⟨d0, d1, d2, d3, d4, d5, g0, g1, g2, g3, g4, g5⟩ := cells6 ((hb'.block (w.heap.size + 1) (by simp)).trans (heap2_1 w _ _))
    have hz : w.heap.size + 1 < w1.heap.size := by have := hb'.size; simp at this; omega
    have HB : Aside _ := hb'
    clear hb' hhas
    dsimp only
    go_wp2
    refine bodyPost_ret (v := .tuple #[LedgerR.v ⟨0, 0, 0, ⟨none, 0, []⟩, 0, 0⟩, .bool false]) (by simp [results, Tryz.results41, go_sem, d0, d1, d2, d3, d4, d5]) rfl ?_
    exact open_none (lo := w.heap.size + 1) (hi := w.heap.size + 1 + 1) (bthen (balloc (b1 w _) _) HB.out) (by omega) (by repeat (first | (with_reducible refine far_set ?_ ⟨by simp, by simp⟩) | (with_reducible exact far_refl _ _ _)))
  | true =>
    simp only [hh] at hhas e0
    simp only [hasB, fromB, Bool.and_eq_true, decide_eq_true_eq] at hh
    obtain ⟨k, rfl⟩ : ∃ k : Nat, ch = (k : Int) + 1 := ⟨(ch - 1).toNat, by omega⟩
    have hkl : k < p.channels.xs.length := by omega
    obtain ⟨b, off, c, ha, hy, hbk, hat, hok⟩ := hp.channels.get (j := k) hkl
    have hk3 : ((k : Int) + 1 - 1).toNat = k := by omega
    rw [hk3] at e0
    have e1 : (p.d.channels.getD k default) = c.d := by simp [PlanR.d, List.getD, hy]
    rw [e1] at e0
    have hlok := hok.ledgers
    have hcell := at_channel hat
    simp only [show eChannel.k = 9 from rfl] at hcell
    have e2 : openAt p.d ((k : Int) + 1) = openOf p.d.ledgers c.d := e0
    rw [e2]
    clear e0 e1 e2 hy hat hok
    obtain ⟨ep, ow, ic, re, fi, tr, ⟨ia, icp, is⟩, ⟨sa, sc, ss⟩, ⟨ua, uc, us⟩⟩ := c
    generalize p.d.ledgers = LS at hfind ⊢
    have hk0 : (0 : Int) ≤ (k : Int) + 1 - 1 := by omega
    have hk2 : (k : Int) + 1 - 1 < (p.channels.xs.length : Int) := by omega
    clear hp hb hh
    obtain ⟨pv, pn, ⟨ca, cc, cs⟩, ⟨la, lc, ls⟩, ⟨pa, pc, ps⟩⟩ := p
    dsimp only [PlanR.v] at ha hk2 hkl hcap hle hlok hhas hfind ⊢
    subst ha
    rcases List.eq_nil_or_concat is with hnil | ⟨is', id, hcon⟩
    · subst hnil
      simp only [List.length_nil] at *
      have ho : openOf LS (ChannelR.d ⟨ep, ow, ic, re, fi, tr, ⟨ia, icp, []⟩, ⟨sa, sc, ss⟩, ⟨ua, uc, us⟩⟩) = none := rfl
      rw [ho]
      go_enter Tryz.func41, Tryz.ntmps41
      go_wp2_with fail
      refine (hhas _).mono ?_
      rintro e w1 ⟨rfl, hb1⟩
      obtain ⟨d0, d1, d2, d3, d4, d5, g0, g1, g2, g3, g4, g5⟩ := cells6 ((hb1.block (w.heap.size + 1) (by simp)).trans (heap2_1 w _ _))
      obtain ⟨q0, q1, q2, q3, q4, r0, r1, r2, r3, r4⟩ := cells5 ((hb1.block w.heap.size (by simp; omega)).trans (heap2_0 w _ _))
      have hz : w.heap.size + 1 < w1.heap.size := by have := hb1.size; simp at this; omega
      have hBW := bthen (balloc (b1 w _) _) hb1
      obtain ⟨m0, m1, m2, m3, m4, m5, m6, m7, m8⟩ := hcell
      have n0 := (hBW.cell (p := ⟨b, off + k * 9, none⟩) hbk).trans m0
      have n1 := (hBW.cell (p := ⟨b, off + k * 9 + 1, none⟩) hbk).trans m1
      have n2 := (hBW.cell (p := ⟨b, off + k * 9 + 2, none⟩) hbk).trans m2
      have n3 := (hBW.cell (p := ⟨b, off + k * 9 + 3, none⟩) hbk).trans m3
      have n4 := (hBW.cell (p := ⟨b, off + k * 9 + 4, none⟩) hbk).trans m4
      have n5 := (hBW.cell (p := ⟨b, off + k * 9 + 5, none⟩) hbk).trans m5
      have n6 := (hBW.cell (p := ⟨b, off + k * 9 + 6, none⟩) hbk).trans m6
      have n7 := (hBW.cell (p := ⟨b, off + k * 9 + 7, none⟩) hbk).trans m7
      have n8 := (hBW.cell (p := ⟨b, off + k * 9 + 8, none⟩) hbk).trans m8
      have HB : Aside _ := hb1
      have HBW : Aside _ := hBW
      clear m0 m1 m2 m3 m4 m5 m6 m7 m8 hb1 hhas hBW
      dsimp only
      go_wp2
      refine bodyPost_ret (v := .tuple #[LedgerR.v ⟨0, 0, 0, ⟨none, 0, []⟩, 0, 0⟩, .bool false]) (by simp [results, Tryz.results41, go_sem, d0, d1, d2, d3, d4, d5]) rfl ?_
      exact open_none (lo := w.heap.size + 1) (hi := w.heap.size + 1 + 1) HBW.out (by omega) (by repeat (first | (with_reducible refine far_set ?_ ⟨by simp, by simp⟩) | (with_reducible exact far_refl _ _ _)))
    · rw [List.concat_eq_append] at hcon
      have hio : openOf LS (ChannelR.d ⟨ep, ow, ic, re, fi, tr, ⟨ia, icp, is⟩, ⟨sa, sc, ss⟩, ⟨ua, uc, us⟩⟩) = (match findL LS id with | some l => if l.closed = 0 then some l else none | none => none) := by
        have hgl : is.getLast? = some id := by rw [hcon, List.getLast?_append]; rfl
        show (match is.getLast? with | none => none | some id => match findL LS id with | some l => if l.closed = 0 then some l else none | none => none) = _
        rw [hgl]
      rw [hio]
      clear hio
      have hil : is.length = is'.length + 1 := by simp [hcon]
      obtain ⟨b', off', id', ha', hy', hb', hat', _⟩ := hlok.get (j := is'.length) (by show _ < is.length; omega)
      have : id' = id := by simpa [hcon] using hy'.symm
      subst this
      have hfi := fun W (hW : Below w.heap.size w W) => hfind W id' hW
      clear hfind
      generalize findL LS id' = o at hfi ⊢
      have hc' := at_u64 hat'
      dsimp only at ha'
      simp only [show eU64.k = 1 from rfl, Nat.mul_one] at hc'
      subst ha'
      have hicp := hlok.cap
      have hile := hlok.le
      dsimp only at hicp hile
      have hne0 : ¬ ((is'.length : Int) + 1 = 0) := by omega
      have hks : ((is'.length : Int) + 1 - 1).toNat = is'.length := by omega
      clear hat' hy' hlok hcon
      rw [hil] at hcell hile
      clear hil
      go_enter Tryz.func41, Tryz.ntmps41
      go_wp2_with fail
      refine (hhas _).mono ?_
      rintro e w1 ⟨rfl, hb1⟩
      have HD1 : Aside _ := (hb1.block (w.heap.size + 1) (by simp)).trans (heap2_1 w _ _)
      obtain ⟨d0, d1, d2, d3, d4, d5, g0, g1, g2, g3, g4, g5⟩ := cells6 ((hb1.block (w.heap.size + 1) (by simp)).trans (heap2_1 w _ _))
      obtain ⟨q0, q1, q2, q3, q4, r0, r1, r2, r3, r4⟩ := cells5 ((hb1.block w.heap.size (by simp; omega)).trans (heap2_0 w _ _))
      have hz : w.heap.size + 1 < w1.heap.size := by have := hb1.size; simp at this; omega
      have hBW := bthen (balloc (b1 w _) _) hb1
      obtain ⟨m0, m1, m2, m3, m4, m5, m6, m7, m8⟩ := hcell
      have n0 := (hBW.cell (p := ⟨b, off + k * 9, none⟩) hbk).trans m0
      have n1 := (hBW.cell (p := ⟨b, off + k * 9 + 1, none⟩) hbk).trans m1
      have n2 := (hBW.cell (p := ⟨b, off + k * 9 + 2, none⟩) hbk).trans m2
      have n3 := (hBW.cell (p := ⟨b, off + k * 9 + 3, none⟩) hbk).trans m3
      have n4 := (hBW.cell (p := ⟨b, off + k * 9 + 4, none⟩) hbk).trans m4
      have n5 := (hBW.cell (p := ⟨b, off + k * 9 + 5, none⟩) hbk).trans m5
      have n6 := (hBW.cell (p := ⟨b, off + k * 9 + 6, none⟩) hbk).trans m6
      have n7 := (hBW.cell (p := ⟨b, off + k * 9 + 7, none⟩) hbk).trans m7
      have n8 := (hBW.cell (p := ⟨b, off + k * 9 + 8, none⟩) hbk).trans m8
      have HB : Aside _ := hb1
      have HBW : Aside _ := hBW
      clear m0 m1 m2 m3 m4 m5 m6 m7 m8 hb1 hhas hBW
      dsimp only
      have hc3 := (HBW.out.cell (p := ⟨b', off' + is'.length, none⟩) hb').trans hc'
      clear hc'
      have hw1 : IntKind.i64.wrap (is'.length : Int) = is'.length := wrap_i64 (by omega) (by omega)
      have hw2 : (0 : Int) ≤ (is'.length : Int) := by omega
      have hw3 : (is'.length : Int) < (is'.length : Int) + 1 := by omega
      go_wp2_with fail
      have hSW : ∀ w', Below w1.heap.size w1 w' → w'.cell? ⟨w.heap.size, 0, none⟩ = some (.int .u64 pv) ∧ w'.cell? ⟨w.heap.size, 1, none⟩ = some (.int .u64 pn) ∧ w'.cell? ⟨w.heap.size, 2, none⟩ = some (.slice (some ⟨b, off, none⟩) cs.length cc) ∧ w'.cell? ⟨w.heap.size, 3, none⟩ = some (.slice la ls.length lc) ∧ w'.cell? ⟨w.heap.size, 4, none⟩ = some (.slice pa ps.length pc) ∧ w'.cell? ⟨b', off' + is'.length, none⟩ = some (.int .u64 id') := fun w' hW => ⟨(hW.cell (p := ⟨w.heap.size, 0, none⟩) (by simp; omega)).trans q0, (hW.cell (p := ⟨w.heap.size, 1, none⟩) (by simp; omega)).trans q1, (hW.cell (p := ⟨w.heap.size, 2, none⟩) (by simp; omega)).trans q2, (hW.cell (p := ⟨w.heap.size, 3, none⟩) (by simp; omega)).trans q3, (hW.cell (p := ⟨w.heap.size, 4, none⟩) (by simp; omega)).trans q4, (hW.cell (p := ⟨b', off' + is'.length, none⟩) (blt HBW.out hb')).trans hc3⟩
      have hS0 := hSW _ (Below.refl _ w1).drew
      have hSA := fun o => hSW _ (b1 w1 o).drew
      have hSB := fun o => hSW _ (balloc (Below.refl _ w1).drew o)
      go_region_held3 (fun w' => w'.cell? ⟨w.heap.size, 0, none⟩ = some (.int .u64 pv) ∧ w'.cell? ⟨w.heap.size, 1, none⟩ = some (.int .u64 pn) ∧ w'.cell? ⟨w.heap.size, 2, none⟩ = some (.slice (some ⟨b, off, none⟩) cs.length cc) ∧ w'.cell? ⟨w.heap.size, 3, none⟩ = some (.slice la ls.length lc) ∧ w'.cell? ⟨w.heap.size, 4, none⟩ = some (.slice pa ps.length pc) ∧ w'.cell? ⟨b', off' + is'.length, none⟩ = some (.int .u64 id')) (first | (with_reducible exact hS3) | (with_reducible exact hS3a _) | (with_reducible exact hS0) | (with_reducible exact hSA _) | (with_reducible exact hSB _) | (refine hSW _ (Far.below (lo := w1.heap.size) (hi := w1.heap.size + 1) ?_ hB3 (Nat.le_refl _)); repeat (first | (with_reducible refine far_set ?_ ⟨by simp, by simp⟩) | (with_reducible exact far_refl _ _ _)))) (first | (go_at_call 42; (with_reducible refine (hfi w1.drew ?_).mono ?_); exact bthen HBW.out (Below.refl _ _).drew; rintro x w3 ⟨⟨id3, wd3, ac3, ⟨fa, fc, fx⟩, cl3, la3⟩, rfl, hd3, ho3, hlo3, hbb3⟩; have hB3 : Below w1.heap.size w1 w3 := bthen (Below.refl _ _).drew hbb3; have hS3 := hSW _ hB3; have hS3a := fun o => hSW _ (balloc hB3 o)) | (go_at_call 42; (with_reducible refine (hfi (w1.alloc _).drew ?_).mono ?_); exact bthen HBW.out (b1 _ _).drew; rintro x w3 ⟨⟨id3, wd3, ac3, ⟨fa, fc, fx⟩, cl3, la3⟩, rfl, hd3, ho3, hlo3, hbb3⟩; have hB3 : Below w1.heap.size w1 w3 := bthen (b1 _ _).drew hbb3; have hS3 := hSW _ hB3; obtain ⟨y0, y1, y2, y3, y4, y5, z0, z1, z2, z3, z4, z5⟩ := cells6 ((hbb3.block w1.heap.size (by simp)).trans (heap_top w1 _ _ rfl)); have hyz : w1.heap.size < w3.heap.size := (by have := hbb3.size; simp at this; omega)))
      · have HB3 : Aside _ := hB3
        have HO : Aside _ := ho3
        have HLO : Aside _ := hlo3
        have hD3 := (hB3.block (w.heap.size + 1) hz).trans HD1.out
        have hz3 : w.heap.size + 1 < w3.heap.size := Nat.lt_of_lt_of_le hz hB3.size
        obtain ⟨d0, d1, d2, d3, d4, d5, g0, g1, g2, g3, g4, g5⟩ := cells6 hD3
        clear hB3 ho3 hlo3 hS3 hD3 hbb3 hS0 hSA hSB hSW hS3a
        cases o with
        | none =>
          clear hd3
          go_wp2
          refine bodyPost_ret (v := .tuple #[LedgerR.v ⟨0, 0, 0, ⟨none, 0, []⟩, 0, 0⟩, .bool false]) (by simp [results, Tryz.results41, go_sem, d0, d1, d2, d3, d4, d5, hz3]) rfl ?_
          exact found_alloc (open_none (lo := w.heap.size + 1) (hi := w.heap.size + 1 + 1) (bthen HBW.out HB3.out) (by omega) (by repeat (first | (with_reducible refine far_set ?_ ⟨by simp, by simp⟩) | (with_reducible exact far_refl _ _ _)))) _
        | some y =>
          dsimp only [Option.getD_some] at hd3
          have hcl : cl3 = y.closed := by rw [← hd3]; rfl
          have HD : Aside _ := hd3
          clear hd3
          by_cases hc0 : cl3 = 0
          · have hy0 : y.closed = 0 := by omega
            clear hcl
            subst hc0
            go_wp2
            refine bodyPost_ret (v := .tuple #[LedgerR.v ⟨id3, wd3, ac3, ⟨fa, fc, fx⟩, 0, la3⟩, .bool true]) (by simp [results, Tryz.results41, go_sem, d0, d1, d2, d3, d4, d5, hz3]) rfl ?_
            exact found_alloc (found_some (lo := w.heap.size + 1) (hi := w.heap.size + 1 + 1) (bthen HBW.out HB3.out) HD.out HO.out HLO.out (by simp; omega) (by omega) (by simp; omega) (by repeat (first | (with_reducible refine far_set ?_ ⟨by simp, by simp⟩) | (with_reducible exact far_refl _ _ _)))) _
          · have hy0 : ¬ y.closed = 0 := by omega
            clear hcl
            go_wp2
            refine bodyPost_ret (v := .tuple #[LedgerR.v ⟨0, 0, 0, ⟨none, 0, []⟩, 0, 0⟩, .bool false]) (by simp [results, Tryz.results41, go_sem, d0, d1, d2, d3, d4, d5, hz3]) rfl ?_
            exact found_alloc (open_none (lo := w.heap.size + 1) (hi := w.heap.size + 1 + 1) (bthen HBW.out HB3.out) (by omega) (by repeat (first | (with_reducible refine far_set ?_ ⟨by simp, by simp⟩) | (with_reducible exact far_refl _ _ _)))) _
      · have HB3 : Aside _ := hB3
        have HO : Aside _ := ho3
        have HLO : Aside _ := hlo3
        have hD3 := (hB3.block (w.heap.size + 1) hz).trans HD1.out
        have hz3 : w.heap.size + 1 < w3.heap.size := Nat.lt_of_lt_of_le hz hB3.size
        obtain ⟨d0, d1, d2, d3, d4, d5, g0, g1, g2, g3, g4, g5⟩ := cells6 hD3
        clear hB3 ho3 hlo3 hS3 hD3 hbb3 hS0 hSA hSB hSW 
        cases o with
        | none =>
          clear hd3
          go_wp2
          refine bodyPost_ret (v := .tuple #[LedgerR.v ⟨0, 0, 0, ⟨none, 0, []⟩, 0, 0⟩, .bool false]) (by simp [results, Tryz.results41, go_sem, d0, d1, d2, d3, d4, d5]) rfl ?_
          exact open_none (lo := w.heap.size + 1) (hi := w1.heap.size + 1) (bthen HBW.out HB3.out) (by omega) (by repeat (first | (with_reducible refine far_set ?_ ⟨by simp; try omega, by simp; try omega⟩) | (with_reducible exact far_refl _ _ _)))
        | some y =>
          dsimp only [Option.getD_some] at hd3
          have hcl : cl3 = y.closed := by rw [← hd3]; rfl
          have HD : Aside _ := hd3
          clear hd3
          by_cases hc0 : cl3 = 0
          · have hy0 : y.closed = 0 := by omega
            clear hcl
            subst hc0
            go_wp2
            refine bodyPost_ret (v := .tuple #[LedgerR.v ⟨id3, wd3, ac3, ⟨fa, fc, fx⟩, 0, la3⟩, .bool true]) (by simp [results, Tryz.results41, go_sem, d0, d1, d2, d3, d4, d5]) rfl ?_
            exact found_some (lo := w.heap.size + 1) (hi := w1.heap.size + 1) (bthen HBW.out HB3.out) HD.out HO.out HLO.out (by simp; omega) (by omega) (by simp) (by repeat (first | (with_reducible refine far_set ?_ ⟨by simp; try omega, by simp; try omega⟩) | (with_reducible exact far_refl _ _ _)))
          · have hy0 : ¬ y.closed = 0 := by omega
            clear hcl
            go_wp2
            refine bodyPost_ret (v := .tuple #[LedgerR.v ⟨0, 0, 0, ⟨none, 0, []⟩, 0, 0⟩, .bool false]) (by simp [results, Tryz.results41, go_sem, d0, d1, d2, d3, d4, d5]) rfl ?_
            exact open_none (lo := w.heap.size + 1) (hi := w1.heap.size + 1) (bthen HBW.out HB3.out) (by omega) (by repeat (first | (with_reducible refine far_set ?_ ⟨by simp; try omega, by simp; try omega⟩) | (with_reducible exact far_refl _ _ _)))
end Go.Proofs.YtdiamknibfamdaaGreat
