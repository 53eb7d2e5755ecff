/- The references of layer 7: End, Open. -/
import Derived.Test.YtdiamknibfamdaaGreatRfL
namespace Go.Proofs.YtdiamknibfamdaaGreat
open Go.RowKit Go.Shelf
attribute [local go_sem ↓] Go.wp_at_zero Go.wp_at_succ

theorem addU_zero {e : Int} (h : U64 e) : addU e 0 = e := by
  have := h.1
  have := h.2
  rw [addU_small (by omega) (by omega), Int.add_zero]
theorem lastOf_idx {ls : List Ledger} {id : Int} : (idxL ls id = -1 ∧ lastOf ls id = 0) ∨ ∃ (k : Nat) (l : Ledger), ls[k]? = some l ∧ idxL ls id = k ∧ lastOf ls id = l.last := by
  rcases idxL_cases ls id with ⟨h1, h2⟩ | ⟨k, l, h1, h2, h3⟩
  · exact .inl ⟨h1, by unfold lastOf; rw [h2]⟩
  · exact .inr ⟨k, l, h1, h2, by unfold lastOf; rw [h3]⟩
theorem get_d {ls : List LedgerR} {k : Nat} {l : Ledger} (h : (ls.map LedgerR.d)[k]? = some l) : ∃ m, ls[k]? = some m ∧ m.d = l := by
  rw [List.getElem?_map] at h
  exact Option.map_eq_some_iff.1 h

set_option maxHeartbeats 4000000 in
set_option maxRecDepth 100000 in
theorem refEnd168 (p : PlanR) (k : Nat) (c : ChannelR) (w : World) (hp : p.Ok w) (hkl : p.channels.xs[k]? = some c) : Calls Tryz.prog 168 #[p.v, .int .i64 ((k : Int) + 1)] w fun e w' => e = .returned (.int .u64 (endOf p.d.ledgers c.d)) ∧ Below w.heap.size w w' := by
  have hlt : k < p.channels.xs.length := (List.getElem?_eq_some_iff.1 hkl).1
  have hfind := fun W id (hW : Below w.heap.size w W) => refFind68 p id W (hp.mono hW)
  have hcap := hp.channels.cap
  have hle := hp.channels.le
  have hls := hp.ledgers
  have hlsl := hls.le
  have hlsc := hls.cap
  obtain ⟨b, off, c', ha, hy, hbk, hat, hok⟩ := hp.channels.get (j := k) hlt
  rw [hkl] at hy
  cases hy
  have hcell := at_channel hat
  simp only [show eChannel.k = 9 from rfl] at hcell
  have hlok := hok.ledgers
  have hlol := hlok.le
  have hloc := hlok.cap
  have hfi := hok.first
  have e2 : endOf p.d.ledgers c.d = endTo p.d.ledgers c.first c.ledgers.xs := rfl
  rw [e2]
  have e3 : p.d.ledgers = p.ledgers.xs.map LedgerR.d := rfl
  rw [e3] at hfind ⊢
  clear e2 e3 hat hok hp hkl
  have hk0 : (0 : Int) ≤ (k : Int) + 1 - 1 := by omega
  have hk2 : (k : Int) + 1 - 1 < (p.channels.xs.length : Int) := by omega
  have hk3 : ((k : Int) + 1 - 1).toNat = k := by omega
  have hk4 : (k : Int) < (p.channels.xs.length : Int) := by omega
  have hk5 : (0 : Int) ≤ (k : Int) := by omega
  have hk6 : ¬ ((k : Int) + 1 < 1) := by omega
  have hk7 : ¬ ((p.channels.xs.length : Int) < (k : Int) + 1) := by omega
  have hd1 : decide ((k : Int) + 1 < 1) = false := decide_eq_false hk6
  have hd2 : decide ((p.channels.xs.length : Int) < (k : Int) + 1) = false := decide_eq_false hk7
  have hw1 : IntKind.i64.wrap ((k : Int) + 1 - 1) = (k : Int) := by rw [wrap_i64 (by omega) (by omega)]; omega
  have hw2 : IntKind.i64.wrap (k : Int) = (k : Int) := wrap_i64 (by omega) (by omega)
  obtain ⟨ep, ow, ic, re, fi, tr, ⟨ia, icp, is⟩, ⟨sa, sc, ss⟩, ⟨ua, uc, us⟩⟩ := c
  obtain ⟨pv, pn, ⟨ca, cc, cs⟩, ⟨la, lc, ls⟩, ⟨pa, pc, ps⟩⟩ := p
  dsimp only at *
  subst ha
  obtain ⟨m0, m1, m2, m3, m4, m5, m6, m7, m8⟩ := hcell
  have hb1 := b1 w (.cells #[.int .u64 pv, .int .u64 pn, .slice (some ⟨b, off, none⟩) cs.length cc, .slice la ls.length lc, .slice pa ps.length pc] 27 (0, 0))
  have n0 := (hb1.cell (p := ⟨b, off + k * 9, none⟩) hbk).trans m0
  have n1 := (hb1.cell (p := ⟨b, off + k * 9 + 1, none⟩) hbk).trans m1
  have n2 := (hb1.cell (p := ⟨b, off + k * 9 + 2, none⟩) hbk).trans m2
  have n3 := (hb1.cell (p := ⟨b, off + k * 9 + 3, none⟩) hbk).trans m3
  have n4 := (hb1.cell (p := ⟨b, off + k * 9 + 4, none⟩) hbk).trans m4
  have n5 := (hb1.cell (p := ⟨b, off + k * 9 + 5, none⟩) hbk).trans m5
  have n6 := (hb1.cell (p := ⟨b, off + k * 9 + 6, none⟩) hbk).trans m6
  have n7 := (hb1.cell (p := ⟨b, off + k * 9 + 7, none⟩) hbk).trans m7
  have n8 := (hb1.cell (p := ⟨b, off + k * 9 + 8, none⟩) hbk).trans m8
  have HLOK : Aside _ := hlok
  have HLS : Aside _ := hls
  have HF : Aside _ := hfind
  have HFI : Hid (U64 fi) := hfi
  have hbne : b ≠ w.heap.size := by omega
  clear hb1 hlok hls hfind hfi
  go_enter Tryz.func168, Tryz.ntmps168
  go_wp2
  clear m0 m1 m2 m3 m4 m5 m6 m7 m8 n0 n1 n2 n3 n4 n5 n6 n7 n8
  go_loopg [6, 7] is.length (fun gg s6 s7 wr => ∃ (j : Nat) (e : Int), j ≤ is.length ∧ is.length - j ≤ gg ∧ s7 = .int .i64 j ∧ s6 = .int .u64 e ∧ Aside (endTo (ls.map LedgerR.d) fi is = endTo (ls.map LedgerR.d) e (is.drop j) ∧ U64 e ∧ Below w.heap.size w wr ∧
    wr.heap[w.heap.size]? = some (.cells #[.int .u64 pv, .int .u64 pn, .slice (some ⟨b, off, none⟩) cs.length cc, .slice la ls.length lc, .slice pa ps.length pc] 27 (0, 0)) ∧
    wr.heap[w.heap.size + 1]? = some (.cells #[.int .u64 ep, .int .i64 ow, .int .u64 ic, .int .u64 re, .int .u64 fi, .int .u64 tr, .slice ia is.length icp, .slice sa ss.length sc, .slice ua us.length uc] 42 (0, 0))))
  case atStart => exact ⟨0, fi, Nat.zero_le _, by omega, rfl, rfl, rfl, HFI.out, balloc (b1 _ _) _, heap2_0 w _ _, heap2_1 w _ _⟩
  case round =>
    obtain ⟨j, e, hj, hg, rfl, rfl, A⟩ := hrel
    obtain ⟨q0, q1, q2, q3, q4, r0, r1, r2, r3, r4⟩ := cells5 A.out.2.2.2.1
    obtain ⟨c0, c1, c2, c3, c4, c5, c6, c7, c8, -, -, -, -, -, -, -, -, -⟩ := cells9 A.out.2.2.2.2
    have hz := box_lt A.out.2.2.2.2
    by_cases hlt2 : j < is.length
    · obtain ⟨b', o', id, ha', hy', hb', hat', _⟩ := (HLOK.out.mono A.out.2.2.1).get (j := j) hlt2
      have i0 := at_u64 hat'
      dsimp only at ha' hy'
      simp only [show eU64.k = 1 from rfl, Nat.mul_one] at i0
      subst ha'
      have hdr : is.drop j = id :: is.drop (j + 1) := by
        rw [List.drop_eq_getElem_cons hlt2]
        congr 1
        exact (List.getElem?_eq_some_iff.1 hy').2
      have HDR : Hid _ := hdr
      clear hdr hat' hy'
      have hltz : (j : Int) < (is.length : Int) := by omega
      have hj0 : (0 : Int) ≤ (j : Int) := by omega
      have hSW : ∀ w', Below wr.heap.size wr w' → w'.cell? ⟨w.heap.size, 0, none⟩ = some (.int .u64 pv) ∧ w'.cell? ⟨w.heap.size, 1, none⟩ = some (.int .u64 pn) ∧ w'.cell? ⟨w.heap.size, 2, none⟩ = some (.slice (some ⟨b, off, none⟩) cs.length cc) ∧ w'.cell? ⟨w.heap.size, 3, none⟩ = some (.slice la ls.length lc) ∧ w'.cell? ⟨w.heap.size, 4, none⟩ = some (.slice pa ps.length pc) ∧ w'.cell? ⟨w.heap.size + 1, 6, none⟩ = some (.slice (some ⟨b', o', none⟩) is.length icp) ∧ w'.cell? ⟨b', o' + j, none⟩ = some (.int .u64 id) :=
        fun w' hW => ⟨(hW.cell (p := ⟨w.heap.size, 0, none⟩) (by dsimp only; omega)).trans q0, (hW.cell (p := ⟨w.heap.size, 1, none⟩) (by dsimp only; omega)).trans q1, (hW.cell (p := ⟨w.heap.size, 2, none⟩) (by dsimp only; omega)).trans q2, (hW.cell (p := ⟨w.heap.size, 3, none⟩) (by dsimp only; omega)).trans q3, (hW.cell (p := ⟨w.heap.size, 4, none⟩) (by dsimp only; omega)).trans q4, (hW.cell (p := ⟨w.heap.size + 1, 6, none⟩) hz).trans c6, (hW.cell (p := ⟨b', o' + j, none⟩) hb').trans i0⟩
      have hS0 := hSW _ (Below.refl _ wr).drew
      have hcall := fun W (hW : Below wr.heap.size wr W) => HF.out W id (bthen A.out.2.2.1 hW)
      clear q0 q1 q2 q3 q4 r0 r1 r2 r3 r4 c0 c1 c2 c3 c4 c5 c7 c8 i0
      rcases lastOf_idx (ls := ls.map LedgerR.d) (id := id) with ⟨h1, h2⟩ | ⟨kk, l, h1, h2, h3⟩
      · rw [h1] at hcall
        have H2 : Hid _ := h2
        clear h1 h2
        go_wp2_with fail
        clear c6
        go_region_held3 (fun w' => w'.cell? ⟨w.heap.size, 0, none⟩ = some (.int .u64 pv) ∧ w'.cell? ⟨w.heap.size, 1, none⟩ = some (.int .u64 pn) ∧ w'.cell? ⟨w.heap.size, 2, none⟩ = some (.slice (some ⟨b, off, none⟩) cs.length cc) ∧ w'.cell? ⟨w.heap.size, 3, none⟩ = some (.slice la ls.length lc) ∧ w'.cell? ⟨w.heap.size, 4, none⟩ = some (.slice pa ps.length pc) ∧ w'.cell? ⟨w.heap.size + 1, 6, none⟩ = some (.slice (some ⟨b', o', none⟩) is.length icp) ∧ w'.cell? ⟨b', o' + j, none⟩ = some (.int .u64 id)) (first | (with_reducible exact hS3) | (with_reducible exact hS0)) (first | (go_at_call 68; (with_reducible refine (hcall wr.drew ?_).mono ?_); exact (Below.refl _ _).drew; rintro x w3 ⟨rfl, hbb3⟩; have hB3 : Below wr.heap.size wr w3 := bthen (Below.refl _ _).drew hbb3; have hS3 := hSW _ hB3))
        have P3 := box_mono A.out.2.2.2.1 hB3
        have C3 := box_mono A.out.2.2.2.2 hB3
        have B3 := bthen A.out.2.2.1 hB3
        have HP3 : Aside _ := P3
        have HC3 : Aside _ := C3
        have HB3 : Aside _ := B3
        clear hS0 hS3 hSW hbb3 hB3 P3 C3 B3
        go_wp2
        go_roundg (is.length - (j + 1))
        case measure => omega
        case rel =>
          refine ⟨j + 1, e, by omega, by omega, by go_num, rfl, ?_, A.out.2.1, HB3.out, HP3.out, HC3.out⟩
          rw [A.out.1, HDR.out]
          show endTo _ (addU e (lastOf _ id)) _ = _
          rw [H2.out, addU_zero A.out.2.1]
      · rw [h2] at hcall
        have H3 : Hid _ := h3
        obtain ⟨m, hm, hml⟩ := get_d h1
        have hkl := (List.getElem?_eq_some_iff.1 hm).1
        have HML : Hid (l.last = m.last) := by rw [← hml]; rfl
        obtain ⟨b2, o2, m', ha2, hy2, hb2, hat2, hok2⟩ := HLS.out.get (j := kk) hkl
        dsimp only at ha2 hy2
        have hmm : m' = m := by rw [hm] at hy2; exact (Option.some.inj hy2).symm
        subst hmm
        have l5 := (at_ledger hat2).2.2.2.2.2
        simp only [show eLedger.k = 6 from rfl] at l5
        subst ha2
        have HU : Hid (U64 m'.last) := hok2.2.2.2.2.2
        clear h1 h2 h3 hm hml hy2 hat2 hok2
        have hkz : (kk : Int) < (ls.length : Int) := by omega
        have hkk0 : (0 : Int) ≤ (kk : Int) := by omega
        go_wp2_with fail
        clear c6
        go_region_held3 (fun w' => w'.cell? ⟨w.heap.size, 0, none⟩ = some (.int .u64 pv) ∧ w'.cell? ⟨w.heap.size, 1, none⟩ = some (.int .u64 pn) ∧ w'.cell? ⟨w.heap.size, 2, none⟩ = some (.slice (some ⟨b, off, none⟩) cs.length cc) ∧ w'.cell? ⟨w.heap.size, 3, none⟩ = some (.slice (some ⟨b2, o2, none⟩) ls.length lc) ∧ w'.cell? ⟨w.heap.size, 4, none⟩ = some (.slice pa ps.length pc) ∧ w'.cell? ⟨w.heap.size + 1, 6, none⟩ = some (.slice (some ⟨b', o', none⟩) is.length icp) ∧ w'.cell? ⟨b', o' + j, none⟩ = some (.int .u64 id)) (first | (with_reducible exact hS3) | (with_reducible exact hS0)) (first | (go_at_call 68; (with_reducible refine (hcall wr.drew ?_).mono ?_); exact (Below.refl _ _).drew; rintro x w3 ⟨rfl, hbb3⟩; have hB3 : Below wr.heap.size wr w3 := bthen (Below.refl _ _).drew hbb3; have hS3 := hSW _ hB3))
        have P3 := box_mono A.out.2.2.2.1 hB3
        have C3 := box_mono A.out.2.2.2.2 hB3
        have B3 := bthen A.out.2.2.1 hB3
        have l53 := (B3.cell (p := ⟨b2, o2 + kk * 6 + 5, none⟩) hb2).trans l5
        obtain ⟨q0, q1, q2, q3, q4, r0, r1, r2, r3, r4⟩ := cells5 P3
        have HP3 : Aside _ := P3
        have HC3 : Aside _ := C3
        have HB3 : Aside _ := B3
        clear hS0 hS3 hSW hbb3 hB3 P3 C3 B3 l5
        go_wp2
        go_roundg (is.length - (j + 1))
        case measure => omega
        case rel =>
          refine ⟨j + 1, addU e m'.last, by omega, by omega, by go_num, by rw [wrap_addU], ?_, addU_u64 _ _, HB3.out, HP3.out, HC3.out⟩
          rw [A.out.1, HDR.out]
          show endTo _ (addU e (lastOf _ id)) _ = _
          rw [H3.out, HML.out]
    · have hltz : ¬ (j : Int) < (is.length : Int) := by omega
      go_wp2
      go_ret
      refine ⟨ret_u64 ?_, A.out.2.2.1⟩
      rw [A.out.1, List.drop_of_length_le (by omega)]
      rfl

def OpenTold (o : Option Ledger) (w : World) (e : Ending) (w' : World) : Prop := ∃ v : Int, e = .returned (.int .i64 v) ∧ I64 v ∧ decide (0 ≤ v) = o.isSome ∧ Below w.heap.size w w'
theorem openOf_nil {ls : List Ledger} {c : Channel} (h : c.ledgers = []) : openOf ls c = none := by unfold openOf; rw [h]; rfl
theorem openOf_last {ls : List Ledger} {c : Channel} {id : Int} (h : c.ledgers.getLast? = some id) : openOf ls c = match findL ls id with | some l => if l.closed = 0 then some l else none | none => none := by unfold openOf; rw [h]; rfl

set_option maxHeartbeats 4000000 in
set_option maxRecDepth 100000 in
theorem refOpen169 (p : PlanR) (k : Nat) (c : ChannelR) (w : World) (hp : p.Ok w) (hkl : p.channels.xs[k]? = some c) : Calls Tryz.prog 169 #[p.v, .int .i64 ((k : Int) + 1)] w (OpenTold (openOf p.d.ledgers c.d) w) := by
  have hlt : k < p.channels.xs.length := (List.getElem?_eq_some_iff.1 hkl).1
  have hfind := fun W id (hW : Below w.heap.size w W) => refFind68 p id W (hp.mono hW)
  have hcap := hp.channels.cap
  have hle := hp.channels.le
  have hls := hp.ledgers
  have hlsl := hls.le
  have hlsc := hls.cap
  obtain ⟨b, off, c', ha, hy, hbk, hat, hok⟩ := hp.channels.get (j := k) hlt
  rw [hkl] at hy
  cases hy
  have hcell := at_channel hat
  simp only [show eChannel.k = 9 from rfl] at hcell
  have hlok := hok.ledgers
  have hlol := hlok.le
  have hloc := hlok.cap
  have e3 : p.d.ledgers = p.ledgers.xs.map LedgerR.d := rfl
  rw [e3] at hfind ⊢
  have hn := openOf_nil (ls := p.ledgers.xs.map LedgerR.d) (c := c.d)
  have hla := fun id => openOf_last (ls := p.ledgers.xs.map LedgerR.d) (c := c.d) (id := id)
  have e4 : c.d.ledgers = c.ledgers.xs := rfl
  rw [e4] at hn hla
  generalize openOf (p.ledgers.xs.map LedgerR.d) c.d = O at hn hla ⊢
  clear e3 e4 hat hok hp hkl
  have hk0 : (0 : Int) ≤ (k : Int) + 1 - 1 := by omega
  have hk2 : (k : Int) + 1 - 1 < (p.channels.xs.length : Int) := by omega
  have hk3 : ((k : Int) + 1 - 1).toNat = k := by omega
  have hk4 : (k : Int) < (p.channels.xs.length : Int) := by omega
  have hk5 : (0 : Int) ≤ (k : Int) := by omega
  have hk6 : ¬ ((k : Int) + 1 < 1) := by omega
  have hk7 : ¬ ((p.channels.xs.length : Int) < (k : Int) + 1) := by omega
  have hd1 : decide ((k : Int) + 1 < 1) = false := decide_eq_false hk6
  have hd2 : decide ((p.channels.xs.length : Int) < (k : Int) + 1) = false := decide_eq_false hk7
  have hw1 : IntKind.i64.wrap ((k : Int) + 1 - 1) = (k : Int) := by rw [wrap_i64 (by omega) (by omega)]; omega
  have hw2 : IntKind.i64.wrap (k : Int) = (k : Int) := wrap_i64 (by omega) (by omega)
  obtain ⟨ep, ow, ic, re, fi, tr, ⟨ia, icp, is⟩, ⟨sa, sc, ss⟩, ⟨ua, uc, us⟩⟩ := c
  obtain ⟨pv, pn, ⟨ca, cc, cs⟩, ⟨la, lc, ls⟩, ⟨pa, pc, ps⟩⟩ := p
  dsimp only at *
  subst ha
  obtain ⟨-, -, -, -, -, -, m6, -, -⟩ := hcell
  have hb1 := b1 w (.cells #[.int .u64 pv, .int .u64 pn, .slice (some ⟨b, off, none⟩) cs.length cc, .slice la ls.length lc, .slice pa ps.length pc] 27 (0, 0))
  have hbne : b ≠ w.heap.size := by omega
  by_cases hnil : is = []
  · have ho : O = none := hn hnil
    subst ho
    have hl0 : ((is.length : Int) == 0) = true := by rw [hnil]; rfl
    clear hn hla hfind hlok hls hb1 hnil
    go_enter Tryz.func169, Tryz.ntmps169
    go_wp2
    go_ret
    exact ⟨-1, rfl, by simp [I64], rfl, b1 _ _⟩
  · have hpos : 0 < is.length := List.length_pos_iff.2 hnil
    obtain ⟨j, hjl⟩ : ∃ j : Nat, is.length = j + 1 := ⟨is.length - 1, by omega⟩
    obtain ⟨b', o', id, ha', hy', hb', hat', _⟩ := hlok.get (j := j) (show j < is.length by omega)
    have i0 := at_u64 hat'
    dsimp only at ha' hy'
    simp only [show eU64.k = 1 from rfl, Nat.mul_one] at i0
    subst ha'
    have hO := hla id (by rw [List.getLast?_eq_getElem?, hjl]; exact hy')
    have hl0 : ((is.length : Int) == 0) = false := by simpa using hnil
    have hwl : IntKind.i64.wrap ((is.length : Int) - 1) = (j : Int) := by rw [wrap_i64 (by omega) (by omega)]; omega
    have hj0 : (0 : Int) ≤ (j : Int) := by omega
    have hjz : (j : Int) < (is.length : Int) := by omega
    obtain ⟨W1, hW1⟩ : ∃ W1, w.alloc (.cells #[.int .u64 pv, .int .u64 pn, .slice (some ⟨b, off, none⟩) cs.length cc, .slice la ls.length lc, .slice pa ps.length pc] 27 (0, 0)) = W1 := ⟨_, rfl⟩
    have P1 := heap_top w (.cells #[.int .u64 pv, .int .u64 pn, .slice (some ⟨b, off, none⟩) cs.length cc, .slice la ls.length lc, .slice pa ps.length pc] 27 (0, 0)) _ rfl
    have i1 := (hb1.cell (p := ⟨b', o' + j, none⟩) hb').trans i0
    rw [hW1] at hb1 P1 i1
    obtain ⟨q0, q1, q2, q3, q4, r0, r1, r2, r3, r4⟩ := cells5 P1
    have hz := box_lt P1
    have hSW : ∀ w', Below W1.heap.size W1 w' → w'.cell? ⟨w.heap.size, 0, none⟩ = some (.int .u64 pv) ∧ w'.cell? ⟨w.heap.size, 1, none⟩ = some (.int .u64 pn) ∧ w'.cell? ⟨w.heap.size, 2, none⟩ = some (.slice (some ⟨b, off, none⟩) cs.length cc) ∧ w'.cell? ⟨w.heap.size, 3, none⟩ = some (.slice la ls.length lc) ∧ w'.cell? ⟨w.heap.size, 4, none⟩ = some (.slice pa ps.length pc) ∧ w'.cell? ⟨b', o' + j, none⟩ = some (.int .u64 id) :=
      fun w' hW => ⟨(hW.cell (p := ⟨w.heap.size, 0, none⟩) hz).trans q0, (hW.cell (p := ⟨w.heap.size, 1, none⟩) hz).trans q1, (hW.cell (p := ⟨w.heap.size, 2, none⟩) hz).trans q2, (hW.cell (p := ⟨w.heap.size, 3, none⟩) hz).trans q3, (hW.cell (p := ⟨w.heap.size, 4, none⟩) hz).trans q4, (hW.cell (p := ⟨b', o' + j, none⟩) (blt hb1 hb')).trans i1⟩
    have hS0 := hSW _ (Below.refl _ W1).drew
    have hcall := fun W (hW : Below W1.heap.size W1 W) => hfind W id (bthen hb1 hW)
    have HB1 : Aside _ := hb1
    have HP1 : Aside _ := P1
    have HW1 : Hid _ := hW1
    have hne : Hid (is ≠ []) := hnil
    clear hn hla hfind hlok hb1 P1 hnil hat' hy' i0 hjl hW1 q0 q1 q2 q3 q4 r0 r1 r2 r3 r4 i1 hz
    rcases idxL_cases (ls.map LedgerR.d) id with ⟨h1, h2⟩ | ⟨kk, l, h1, h2, h3⟩
    · rw [h1] at hcall
      rw [h2] at hO
      have ho : O = none := hO
      subst ho
      clear h1 h2 hls hO
      go_enter Tryz.func169, Tryz.ntmps169
      go_wp2_with fail
      rw [HW1.out]
      clear m6
      go_region_held3 (fun w' => w'.cell? ⟨w.heap.size, 0, none⟩ = some (.int .u64 pv) ∧ w'.cell? ⟨w.heap.size, 1, none⟩ = some (.int .u64 pn) ∧ w'.cell? ⟨w.heap.size, 2, none⟩ = some (.slice (some ⟨b, off, none⟩) cs.length cc) ∧ w'.cell? ⟨w.heap.size, 3, none⟩ = some (.slice la ls.length lc) ∧ w'.cell? ⟨w.heap.size, 4, none⟩ = some (.slice pa ps.length pc) ∧ w'.cell? ⟨b', o' + j, none⟩ = some (.int .u64 id)) (first | (with_reducible exact hS3) | (with_reducible exact hS0)) (first | (go_at_call 68; (with_reducible refine (hcall W1.drew ?_).mono ?_); exact (Below.refl _ _).drew; rintro x w3 ⟨rfl, hbb3⟩; have hB3 : Below W1.heap.size W1 w3 := bthen (Below.refl _ _).drew hbb3; have hS3 := hSW _ hB3))
      have P3 := box_mono HP1.out hB3
      have B3 := bthen HB1.out hB3
      obtain ⟨q0, q1, q2, q3, q4, r0, r1, r2, r3, r4⟩ := cells5 P3
      have HB3 : Aside _ := B3
      clear hS0 hS3 hSW hbb3 hB3 P3 B3
      go_wp2
      go_ret
      exact ⟨-1, rfl, by simp [I64], rfl, HB3.out⟩
    · rw [h2] at hcall
      rw [h3] at hO
      obtain ⟨m, hm, hml⟩ := get_d h1
      have hkl := (List.getElem?_eq_some_iff.1 hm).1
      have hcl : l.closed = m.closed := by rw [← hml]; rfl
      obtain ⟨b2, o2, m', ha2, hy2, hb2, hat2, hok2⟩ := hls.get (j := kk) hkl
      dsimp only at ha2 hy2
      have hmm : m' = m := by rw [hm] at hy2; exact (Option.some.inj hy2).symm
      subst hmm
      have l4 := (at_ledger hat2).2.2.2.2.1
      simp only [show eLedger.k = 6 from rfl] at l4
      subst ha2
      have hkz : (kk : Int) < (ls.length : Int) := by omega
      have hkk0 : (0 : Int) ≤ (kk : Int) := by omega
      have hkkn : ¬ ((kk : Int) < 0) := by omega
      dsimp only at hO
      rw [hcl] at hO
      clear h1 h2 h3 hm hml hy2 hat2 hok2 hls hcl
      by_cases hc0 : m'.closed = 0
      · rw [if_pos hc0] at hO
        have hc1 : (m'.closed != 0) = false := by simpa using hc0
        subst hO
        clear hc0
        go_enter Tryz.func169, Tryz.ntmps169
        go_wp2_with fail
        rw [HW1.out]
        clear m6
        go_region_held3 (fun w' => w'.cell? ⟨w.heap.size, 0, none⟩ = some (.int .u64 pv) ∧ w'.cell? ⟨w.heap.size, 1, none⟩ = some (.int .u64 pn) ∧ w'.cell? ⟨w.heap.size, 2, none⟩ = some (.slice (some ⟨b, off, none⟩) cs.length cc) ∧ w'.cell? ⟨w.heap.size, 3, none⟩ = some (.slice (some ⟨b2, o2, none⟩) ls.length lc) ∧ w'.cell? ⟨w.heap.size, 4, none⟩ = some (.slice pa ps.length pc) ∧ w'.cell? ⟨b', o' + j, none⟩ = some (.int .u64 id)) (first | (with_reducible exact hS3) | (with_reducible exact hS0)) (first | (go_at_call 68; (with_reducible refine (hcall W1.drew ?_).mono ?_); exact (Below.refl _ _).drew; rintro x w3 ⟨rfl, hbb3⟩; have hB3 : Below W1.heap.size W1 w3 := bthen (Below.refl _ _).drew hbb3; have hS3 := hSW _ hB3))
        have P3 := box_mono HP1.out hB3
        have B3 := bthen HB1.out hB3
        have l43 := (B3.cell (p := ⟨b2, o2 + kk * 6 + 4, none⟩) hb2).trans l4
        clear l4
        obtain ⟨q0, q1, q2, q3, q4, r0, r1, r2, r3, r4⟩ := cells5 P3
        have HB3 : Aside _ := B3
        clear hS0 hS3 hSW hbb3 hB3 P3 B3
        go_wp2
        go_ret
        exact ⟨(kk : Int), rfl, by unfold I64; omega, by simp, HB3.out⟩
      · rw [if_neg hc0] at hO
        have hc1 : (m'.closed != 0) = true := by simpa using hc0
        subst hO
        clear hc0
        go_enter Tryz.func169, Tryz.ntmps169
        go_wp2_with fail
        rw [HW1.out]
        clear m6
        go_region_held3 (fun w' => w'.cell? ⟨w.heap.size, 0, none⟩ = some (.int .u64 pv) ∧ w'.cell? ⟨w.heap.size, 1, none⟩ = some (.int .u64 pn) ∧ w'.cell? ⟨w.heap.size, 2, none⟩ = some (.slice (some ⟨b, off, none⟩) cs.length cc) ∧ w'.cell? ⟨w.heap.size, 3, none⟩ = some (.slice (some ⟨b2, o2, none⟩) ls.length lc) ∧ w'.cell? ⟨w.heap.size, 4, none⟩ = some (.slice pa ps.length pc) ∧ w'.cell? ⟨b', o' + j, none⟩ = some (.int .u64 id)) (first | (with_reducible exact hS3) | (with_reducible exact hS0)) (first | (go_at_call 68; (with_reducible refine (hcall W1.drew ?_).mono ?_); exact (Below.refl _ _).drew; rintro x w3 ⟨rfl, hbb3⟩; have hB3 : Below W1.heap.size W1 w3 := bthen (Below.refl _ _).drew hbb3; have hS3 := hSW _ hB3))
        have P3 := box_mono HP1.out hB3
        have B3 := bthen HB1.out hB3
        have l43 := (B3.cell (p := ⟨b2, o2 + kk * 6 + 4, none⟩) hb2).trans l4
        clear l4
        obtain ⟨q0, q1, q2, q3, q4, r0, r1, r2, r3, r4⟩ := cells5 P3
        have HB3 : Aside _ := B3
        clear hS0 hS3 hSW hbb3 hB3 P3 B3
        go_wp2
        go_ret
        exact ⟨-1, rfl, by simp [I64], rfl, HB3.out⟩
end Go.Proofs.YtdiamknibfamdaaGreat
/- The references of layer 7: MayMarks. -/
namespace Go.Proofs.YtdiamknibfamdaaGreat
open Go.RowKit Go.Shelf
attribute [local go_sem ↓] Go.wp_at_zero Go.wp_at_succ

/-- It tells whether. -/
def Tells (p : Prop) (w : World) (e : Ending) (w' : World) : Prop := ∃ r : Bool, e = .returned (.bool r) ∧ (r = true ↔ p) ∧ Below w.heap.size w w'
theorem tells_no {p : Prop} {w w' : World} (h : ¬ p) (hb : Below w.heap.size w w') : Tells p w (.returned (.bool false)) w' := ⟨false, rfl, ⟨(fun h => by cases h), fun hp => absurd hp h⟩, hb⟩
theorem tells_yes {p : Prop} {w w' : World} (h : p) (hb : Below w.heap.size w w') : Tells p w (.returned (.bool true)) w' := ⟨true, rfl, ⟨fun _ => h, fun _ => rfl⟩, hb⟩

def MarkGood (l : List Mark) (i : Nat) : Prop :=
  ∀ x, l[i]? = some x → 1 ≤ x.producer ∧ x.producer ≤ 15 ∧ 1 ≤ x.seq ∧ x.seq ≤ 4611686018427387903 ∧ x.offset ≤ 4611686018427387903 ∧ ∀ (k : Nat) (y : Mark), k < i → l[k]? = some y → y.producer < x.producer ∧ y.offset ≠ x.offset
def MarksGood (l : List Mark) : Prop := l.length ≤ 6 ∧ ∀ i, i < l.length → MarkGood l i

set_option maxHeartbeats 4000000 in
set_option maxRecDepth 100000 in
theorem refMarks170 (s : Sl Mark) (w : World) (hs : SlOk eMark w s) : Calls Tryz.prog 170 #[.slice s.a s.xs.length s.c] w (Tells (MarksGood s.xs) w) := by
  have hle := hs.le
  have hcap := hs.cap
  obtain ⟨a, c, xs⟩ := s
  dsimp only at hle hcap ⊢
  have HS : Aside _ := hs
  clear hs
  by_cases hl6 : 6 < xs.length
  · have hz2 : (6 : Int) < (xs.length : Int) := by omega
    go_enter Tryz.func170, Tryz.ntmps170
    go_wp2
    go_ret
    exact tells_no (fun h => by have := h.1; omega) (Below.refl _ _)
  have hz2 : ¬ (6 : Int) < (xs.length : Int) := by omega
  go_enter Tryz.func170, Tryz.ntmps170
  go_wp2
  go_loopg [3] xs.length (fun gg s3 wr => ∃ i : Nat, i ≤ xs.length ∧ xs.length - i ≤ gg ∧ s3 = .int .i64 i ∧ Aside ((∀ j, j < i → MarkGood xs j) ∧ Below w.heap.size w wr))
  case atStart => exact ⟨0, Nat.zero_le _, by omega, rfl, fun j hj => absurd hj (Nat.not_lt_zero _), Below.refl _ _⟩
  case round =>
    obtain ⟨i, hi, hg, rfl, A⟩ := hrel
    by_cases hlt : i < xs.length
    · obtain ⟨b, off, x, ha, hy, hb, hat, _⟩ := (HS.out.mono A.out.2).get (j := i) hlt
      obtain ⟨d0, d1, d2⟩ := at_mark hat
      dsimp only at ha hy
      simp only [show eMark.k = 3 from rfl] at d0 d1 d2
      subst ha
      obtain ⟨xp, xq, xo⟩ := x
      have HY : Hid _ := hy
      have hltz : (i : Int) < (xs.length : Int) := by omega
      have hi0 : (0 : Int) ≤ (i : Int) := by omega
      have hbne : b ≠ wr.heap.size := by omega
      have bad : ¬ MarkGood xs i → ¬ MarksGood xs := fun h hg => h (hg.2 i hlt)
      have BAD : Aside _ := bad
      clear hat hy bad
      dsimp only at d0 d1 d2
      obtain ⟨wo, rfl⟩ : ∃ wo : World, wo = wr := ⟨_, rfl⟩
      go_wp2_with fail
      all_goals try (go_ret; exact tells_no (BAD.out (fun h => by have h1 := h _ HY.out; dsimp only at h1; omega)) (balloc A.out.2 _))
      have G : Hid (1 ≤ xp ∧ xp ≤ 15 ∧ 1 ≤ xq ∧ xq ≤ 4611686018427387903 ∧ xo ≤ 4611686018427387903) := by show _ ∧ _; omega
      clear d0 d1 d2
      go_loopg [5] i (fun gg s5 wj => ∃ q : Nat, q ≤ i ∧ i - q ≤ gg ∧ s5 = .int .i64 q ∧ Aside ((∀ (k : Nat) (y : Mark), k < q → xs[k]? = some y → y.producer < xp ∧ y.offset ≠ xo) ∧ Below w.heap.size w wj ∧ wj.heap[wo.heap.size]? = some (.cells #[.int .i64 xp, .int .u64 xq, .int .u64 xo] 134 (0, 0))))
      case atStart => exact ⟨0, Nat.zero_le _, by omega, rfl, fun k y hk => absurd hk (Nat.not_lt_zero _), balloc A.out.2 _, heap_top wo _ _ rfl⟩
      case round =>
        obtain ⟨q, hq, hgq, rfl, C⟩ := hrel
        obtain ⟨wj, rfl⟩ : ∃ wj : World, wj = wr := ⟨_, rfl⟩
        have hq0 : (0 : Int) ≤ (q : Int) := by omega
        have bj : ∀ m, Below wj.heap.size wj (wj.drewN m) := fun m => ⟨rfl, rfl, rfl, Nat.le_refl _, fun _ _ => rfl⟩
        obtain ⟨x0, x1, x2, -, -, -⟩ := cells3 C.out.2.2
        by_cases hqk : q < i
        · have hqz : decide ((q : Int) < (i : Int)) = true := decide_eq_true (by omega)
          have hqn : decide (q < i) = true := decide_eq_true hqk
          have hql : (q : Int) < (xs.length : Int) := by omega
          obtain ⟨b3, o3, y, hay, hyy, _, haty, _⟩ := (HS.out.mono C.out.2.1).get (j := q) (show q < xs.length by omega)
          dsimp only at hay hyy
          obtain ⟨y0, -, y2⟩ := at_mark haty
          simp only [show eMark.k = 3 from rfl] at y0 y2
          cases hay
          obtain ⟨yp, yq, yo⟩ := y
          dsimp only at y0 y2
          have HYY : Hid _ := hyy
          have badq : ¬ (yp < xp ∧ yo ≠ xo) → ¬ MarksGood xs := fun h => BAD.out (fun hg => h ((hg _ HY.out).2.2.2.2.2 q _ hqk HYY.out))
          have BADQ : Aside _ := badq
          clear haty hyy badq
          by_cases h1 : xp ≤ yp
          · have hd1 : decide (yp ≥ xp) = true := decide_eq_true h1
            go_wp2_with fail
            go_quiet (fail)
            go_wp2
            go_ret
            exact tells_no (BADQ.out (fun h => by omega)) (bthen C.out.2.1 (bj _))
          · have hd1 : decide (yp ≥ xp) = false := decide_eq_false (by omega)
            by_cases h2 : yo = xo
            · subst h2
              have hd2 : (yo == yo) = true := by simp
              go_wp2_with fail
              go_quiet (fail)
              go_wp2
              go_ret
              exact tells_no (BADQ.out (fun h => h.2 rfl)) (bthen C.out.2.1 (bj _))
            · have hd2 : (yo == xo) = false := by simpa using h2
              have H12 : Hid (yp < xp ∧ yo ≠ xo) := ⟨by omega, h2⟩
              clear h1 h2
              go_wp2_with fail
              go_quiet (fail)
              go_wp2
              go_roundg (i - (q + 1))
              case measure => omega
              case rel =>
                refine ⟨q + 1, by omega, by omega, by go_num, fun k y hk hy => ?_, bthen C.out.2.1 (bj _), C.out.2.2⟩
                by_cases he : k = q
                · subst he
                  have := HYY.out.symm.trans hy
                  cases this
                  exact H12.out
                · exact C.out.1 k y (by omega) hy
        · have hqz : decide ((q : Int) < (i : Int)) = false := decide_eq_false (by omega)
          have hqn : decide (q < i) = false := decide_eq_false hqk
          go_wp2
          go_roundg (xs.length - (i + 1))
          case measure => omega
          case rel =>
            refine ⟨i + 1, by omega, by omega, by go_num, fun j hj => ?_, C.out.2.1⟩
            by_cases he : j = i
            · subst he
              intro x' hx'
              have := HY.out.symm.trans hx'
              cases this
              obtain ⟨g1, g2, g3, g4, g5⟩ := G.out
              exact ⟨g1, g2, g3, g4, g5, fun k y hk hy => C.out.1 k y (by omega) hy⟩
            · exact A.out.1 j (by omega)
    · have hltz : ¬ (i : Int) < (xs.length : Int) := by omega
      go_wp2
      go_ret
      exact tells_yes ⟨by omega, fun j hj => A.out.1 j (by omega)⟩ A.out.2
end Go.Proofs.YtdiamknibfamdaaGreat
