/- The references of layer 7: May. -/
import Derived.Test.YtdiamknibfamdaaGreatRfZ
import Derived.Test.YtdiamknibfamdaaGreatRfD
namespace Go.Proofs.YtdiamknibfamdaaGreat
open Go.RowKit Go.Shelf
attribute [local go_sem ↓] Go.wp_at_zero Go.wp_at_succ

theorem named_take (cs : List ChannelR) (id : Int) (k : Nat) (c : ChannelR) (h : cs[k]? = some c) :
    (((cs.take (k + 1)).map ChannelR.d).flatMap (·.ledgers)).count id = (((cs.take k).map ChannelR.d).flatMap (·.ledgers)).count id + c.ledgers.xs.count id := by
  rw [List.take_add_one, h]
  simp [List.flatMap_append, ChannelR.d]
theorem named_all {M a b : Nat} {is : List Int} {q : Nat} {li : Int} (h1 : a = b + is.count li) (h2 : M = b + (is.take q).count li) (h3 : is.take q = is) : M = a := by rw [h1, h2, h3]
theorem count_take (l : List Int) (id : Int) (j : Nat) (x : Int) (h : l[j]? = some x) : (l.take (j + 1)).count id = (l.take j).count id + if x = id then 1 else 0 := by
  rw [List.take_add_one, h]
  by_cases hx : x = id <;> simp [hx]

set_option maxHeartbeats 8000000 in
set_option maxRecDepth 100000 in
theorem may_bad (p : PlanR) (w : World) (hp : p.Ok w) (hb : PlanSmall p) (hN : ¬ ((∀ i, i < p.ledgers.xs.length → LedGood p.d i) ∧ ∀ (k : Nat) (c : ChannelR), p.channels.xs[k]? = some c → RefChan p.d.ledgers c.d)) : Calls Tryz.prog 70 #[p.v] w (Tells (RefMay p.d) w) := by
  have hcha := fun W (hW : Below w.heap.size w W) k c hk => refChan114 p k c W (hp.mono hW) hk
  have hled := hp.ledgers
  have hll := hled.le
  have hlc := hled.cap
  have hchs := hp.channels
  have hcl := hchs.le
  have hcc := hchs.cap
  have hpas := hp.past
  have hpl := hpas.le
  have hpc := hpas.cap
  have hrows := fun c hc => (hb.rows c hc).1
  have hR : RefMay p.d ↔ (p.version ≤ 4611686018427387903 ∧ 1 ≤ p.next ∧ p.next ≤ 4611686018427387904 ∧ 1 ≤ p.channels.xs.length ∧ p.channels.xs.length ≤ 3 ∧ p.ledgers.xs.length ≤ 24) ∧ (∀ i, i < p.ledgers.xs.length → LedGood p.d i) ∧
      (∀ (k : Nat) (c : ChannelR), p.channels.xs[k]? = some c → RefChan p.d.ledgers c.d) ∧ ∀ i, i < p.past.xs.length → PastGood p.past.xs i := by
    have e1 : p.d.channels.length = p.channels.xs.length := by simp [PlanR.d]
    have e2 : p.d.ledgers.length = p.ledgers.xs.length := by simp [PlanR.d]
    constructor
    · rintro ⟨h1, h2, h3, h4⟩
      rw [e1, e2] at h1
      rw [e2] at h2
      exact ⟨h1, h2, fun k c hk => h3 k c.d (by show (p.channels.xs.map ChannelR.d)[k]? = _; rw [List.getElem?_map, hk]; rfl), h4⟩
    · rintro ⟨h1, h2, h3, h4⟩
      refine ⟨by rw [e1, e2]; exact h1, by rw [e2]; exact h2, fun k c hk => ?_, h4⟩
      have hk' : (p.channels.xs.map ChannelR.d)[k]? = some c := hk
      rw [List.getElem?_map] at hk'
      cases hc : p.channels.xs[k]? with
      | none => rw [hc] at hk'; cases hk'
      | some c0 => rw [hc] at hk'; cases hk'; exact h3 k c0 hc
  generalize RefMay p.d = R at hR ⊢
  obtain ⟨LG, hLG⟩ : ∃ LG : Nat → Prop, ∀ i, LG i ↔ LedGood p.d i := ⟨_, fun i => Iff.rfl⟩
  have hLGg : ∀ i (x : LedgerR), p.ledgers.xs[i]? = some x → (LG i ↔ (mayLedgerB x.d = true ∧ x.id < p.next ∧ (∀ (j : Nat) (y : LedgerR), j + 1 = i → p.ledgers.xs[j]? = some y → y.id < x.id) ∧ ((p.channels.xs.map ChannelR.d).flatMap (·.ledgers)).count x.id = 1)) := by
    intro i x hx
    rw [hLG]
    have hd : p.d.ledgers[i]? = some x.d := by show (p.ledgers.xs.map LedgerR.d)[i]? = _; rw [List.getElem?_map, hx]; rfl
    constructor
    · intro h
      obtain ⟨h1, h2, h3, h4⟩ := h _ hd
      exact ⟨h1, h2, fun j y hj hy => h3 j y.d hj (by show (p.ledgers.xs.map LedgerR.d)[j]? = _; rw [List.getElem?_map, hy]; rfl), h4⟩
    · rintro ⟨h1, h2, h3, h4⟩ l hl
      rw [hd] at hl
      cases hl
      refine ⟨h1, h2, fun j y hj hy => ?_, h4⟩
      have hy' : (p.ledgers.xs.map LedgerR.d)[j]? = some y := hy
      obtain ⟨m, hm, rfl⟩ := get_d hy'
      exact h3 j m hj hm
  simp only [← hLG] at hR hN
  clear hLG
  obtain ⟨CG, hCG⟩ : ∃ CG : ChannelR → Prop, ∀ c, CG c ↔ RefChan p.d.ledgers c.d := ⟨_, fun c => Iff.rfl⟩
  simp only [← hCG] at hR hN
  have hcha : ∀ W, Below w.heap.size w W → ∀ (k : Nat) (c : ChannelR), p.channels.xs[k]? = some c → Calls Tryz.prog 114 #[p.v, .int .i64 ((k : Int) + 1)] W (Tells (CG c) W) := fun W hW k c hk => by
    have h1 := hcha W hW k c hk
    have h2 : (RefChan p.d.ledgers c.d) = CG c := propext (hCG c).symm
    rw [h2] at h1
    exact h1
  clear hCG hp hb
  obtain ⟨pv, pn, ⟨ca, cc, cs⟩, ⟨la, lc, ls⟩, ⟨pa, pc, ps⟩⟩ := p
  dsimp only at *
  have RH : Aside (R → pv ≤ 4611686018427387903 ∧ 1 ≤ pn ∧ pn ≤ 4611686018427387904 ∧ 1 ≤ cs.length ∧ cs.length ≤ 3 ∧ ls.length ≤ 24) := fun h => (hR.1 h).1
  have HR : Aside _ := hR
  have HN : Aside (¬ ((∀ i, i < ls.length → LG i) ∧ ∀ (k : Nat) (c : ChannelR), cs[k]? = some c → CG c)) := hN
  have HLG : Aside _ := hLGg
  have HCH : Aside _ := hcha
  have HLS : Aside _ := hled
  have HCS : Aside _ := hchs
  have HPS : Aside _ := hpas
  have HRW : Aside _ := hrows
  clear hN hR hLGg hcha hled hchs hpas hrows
  by_cases hPRE : pv ≤ 4611686018427387903 ∧ 1 ≤ pn ∧ pn ≤ 4611686018427387904 ∧ 1 ≤ cs.length ∧ cs.length ≤ 3 ∧ ls.length ≤ 24
  case neg =>
    go_enter Tryz.func70, Tryz.ntmps70
    go_wp2_with fail
    all_goals first
      | (go_ret; exact tells_no (fun h => hPRE (RH.out h)) (b1 _ _))
      | (exfalso; omega)
  case pos =>
    have PRE : Hid _ := hPRE
    have hg1 : decide (4611686018427387903 < pv) = false := decide_eq_false (by omega)
    have hg2 : decide (pn < 1) = false := decide_eq_false (by omega)
    have hg3 : decide (4611686018427387904 < pn) = false := decide_eq_false (by omega)
    have hg4 : decide ((cs.length : Int) < 1) = false := decide_eq_false (by omega)
    have hg5 : decide ((3 : Int) < (cs.length : Int)) = false := decide_eq_false (by omega)
    have hg6 : decide ((24 : Int) < (ls.length : Int)) = false := decide_eq_false (by omega)
    have hcs3 : cs.length ≤ 3 := by omega
    clear hPRE
    go_enter Tryz.func70, Tryz.ntmps70
    go_wp2_with fail
    clear hg1 hg2 hg3 hg4 hg5 hg6
    go_loopg [3] ls.length (fun gg s3 wr => ∃ i : Nat, i ≤ ls.length ∧ ls.length - i ≤ gg ∧ s3 = .int .i64 i ∧ Aside ((∀ j, j < i → LG j) ∧ Below w.heap.size w wr ∧ wr.heap[w.heap.size]? = some (.cells #[.int .u64 pv, .int .u64 pn, .slice ca cs.length cc, .slice la ls.length lc, .slice pa ps.length pc] 27 (0, 0))))
    case atStart => exact ⟨0, Nat.zero_le _, by omega, rfl, fun j hj => absurd hj (Nat.not_lt_zero _), b1 _ _, heap_top w _ _ rfl⟩
    case round =>
      obtain ⟨i, hi, hg, rfl, A⟩ := hrel
      obtain ⟨wo, rfl⟩ : ∃ wo : World, wo = wr := ⟨_, rfl⟩
      by_cases hlt : i < ls.length
      · obtain ⟨b, off, x, ha, hy, hb, hat, hok⟩ := (HLS.out.mono A.out.2.1).get (j := i) hlt
        dsimp only at ha hy
        obtain ⟨d0, d1, d2, d3, d4, d5⟩ := at_ledger hat
        simp only [show eLedger.k = 6 from rfl] at d0 d1 d2 d3 d4 d5
        cases ha
        have HY : Hid (ls[i]? = some x) := hy
        have hml := fun W (hW : Below wo.heap.size wo W) => refLedger113 x W (eLedger.mono hok hW)
        have bad : ¬ LG i → ¬ R := fun h hr => h ((HR.out.1 hr).2.1 i hlt)
        have BAD : Aside _ := bad
        have HOK : Aside (LedgerR.Ok wo x) := hok
        have hltz : (i : Int) < (ls.length : Int) := by omega
        have hi0 : (0 : Int) ≤ (i : Int) := by omega
        obtain ⟨mB, hmB⟩ : ∃ mB, mayLedgerB x.d = mB := ⟨_, rfl⟩
        rw [hmB] at hml
        have HMB : Hid (mayLedgerB x.d = mB) := hmB
        clear hat hok bad hmB hy
        obtain ⟨li, lw, lA, ⟨fa, fc, fx⟩, lcl, lla⟩ := x
        dsimp only at d0 d1 d2 d3 d4 d5 hml
        obtain ⟨t0, t1, t2, t3, t4, -, -, -, -, -⟩ := cells5 A.out.2.2
        go_wp2_with fail
        have HP2 : Aside _ := box_mono A.out.2.2 (b1 wo (.cells #[.int .u64 li, .int .i64 lw, .int .i64 lA, .slice fa fx.length fc, .int .i64 lcl, .int .u64 lla] 68 (0, 0)))
        have HL2 : Aside _ := heap_top wo (.cells #[.int .u64 li, .int .i64 lw, .int .i64 lA, .slice fa fx.length fc, .int .i64 lcl, .int .u64 lla] 68 (0, 0)) _ rfl
        have HB2 : Aside _ := balloc A.out.2.1 (.cells #[.int .u64 li, .int .i64 lw, .int .i64 lA, .slice fa fx.length fc, .int .i64 lcl, .int .u64 lla] 68 (0, 0))
        have hml := fun W (hW : Below (wo.alloc (.cells #[.int .u64 li, .int .i64 lw, .int .i64 lA, .slice fa fx.length fc, .int .i64 lcl, .int .u64 lla] 68 (0, 0))).heap.size (wo.alloc (.cells #[.int .u64 li, .int .i64 lw, .int .i64 lA, .slice fa fx.length fc, .int .i64 lcl, .int .u64 lla] 68 (0, 0))) W) => hml W (bthen (b1 _ _) hW)
        have hb2 : b < (wo.alloc (.cells #[.int .u64 li, .int .i64 lw, .int .i64 lA, .slice fa fx.length fc, .int .i64 lcl, .int .u64 lla] 68 (0, 0))).heap.size := by simp; omega
        have HWO : Hid (wo.heap.size < (wo.alloc (.cells #[.int .u64 li, .int .i64 lw, .int .i64 lA, .slice fa fx.length fc, .int .i64 lcl, .int .u64 lla] 68 (0, 0))).heap.size) := by show _ < _; simp
        have HBW : Aside (Below wo.heap.size wo (wo.alloc (.cells #[.int .u64 li, .int .i64 lw, .int .i64 lA, .slice fa fx.length fc, .int .i64 lcl, .int .u64 lla] 68 (0, 0)))) := b1 _ _
        generalize wo.alloc (.cells #[.int .u64 li, .int .i64 lw, .int .i64 lA, .slice fa fx.length fc, .int .i64 lcl, .int .u64 lla] 68 (0, 0)) = w2 at HP2 HL2 HB2 hml hb2 HWO HBW ⊢
        clear t0 t1 t2 t3 t4 d0 d1 d2 d3 d4 d5
        obtain ⟨t0, t1, t2, t3, t4, -, -, -, -, -⟩ := cells5 HP2.out
        obtain ⟨l0, l1, l2, l3, l4, l5, -, -, -, -, -, -⟩ := cells6 HL2.out
        have hz0 := box_lt HP2.out
        have hz1 := HWO.out
        cases mB with
        | false =>
          obtain ⟨T, f, hf, hget⟩ := below_all w2
          obtain ⟨n0, hn0⟩ := hget w2.drew (Below.refl _ _).drew
          have hne : Nonempty T := ⟨n0⟩
          have hcall := fun n => (hml (f n) (hf n)).mono (fun e w' (h : e = .returned (.bool _) ∧ Below (f n).heap.size (f n) w') => (⟨h.1, hget w' (bthen (hf n) h.2)⟩ : e = .returned (.bool _) ∧ ∃ m, w' = f m))
          have HF : Aside (∀ n, Below w2.heap.size w2 (f n)) := hf
          have s0 := fun n => ((hf n).cell (p := ⟨w.heap.size, 0, none⟩) hz0).trans t0
          have s1 := fun n => ((hf n).cell (p := ⟨w.heap.size, 1, none⟩) hz0).trans t1
          have s2 := fun n => ((hf n).cell (p := ⟨w.heap.size, 2, none⟩) hz0).trans t2
          have s3 := fun n => ((hf n).cell (p := ⟨w.heap.size, 3, none⟩) hz0).trans t3
          have s4 := fun n => ((hf n).cell (p := ⟨w.heap.size, 4, none⟩) hz0).trans t4
          have m0 := fun n => ((hf n).cell (p := ⟨wo.heap.size, 0, none⟩) hz1).trans l0
          have m1 := fun n => ((hf n).cell (p := ⟨wo.heap.size, 1, none⟩) hz1).trans l1
          have m2 := fun n => ((hf n).cell (p := ⟨wo.heap.size, 2, none⟩) hz1).trans l2
          have m3 := fun n => ((hf n).cell (p := ⟨wo.heap.size, 3, none⟩) hz1).trans l3
          have m4 := fun n => ((hf n).cell (p := ⟨wo.heap.size, 4, none⟩) hz1).trans l4
          have m5 := fun n => ((hf n).cell (p := ⟨wo.heap.size, 5, none⟩) hz1).trans l5
          clear t0 t1 t2 t3 t4 l0 l1 l2 l3 l4 l5 hml hget hf
          refine wp_region_below f (by kernel_rfl) (by kernel_rfl) hn0 ?_
          repeat (go_big_quiet_step (exact hcall _))
          refine wpQuiet_nil ?_
          intro _ hw'
          obtain ⟨nq, hw''⟩ := hw'
          subst hw''
          have HP3 : Aside _ := box_mono HP2.out (HF.out nq)
          have HL3 : Aside _ := box_mono HL2.out (HF.out nq)
          have HB3 : Aside _ := bthen HB2.out (HF.out nq)
          clear hcall s0 s1 s2 s3 s4 m0 m1 m2 m3 m4 m5 HF hne hn0
          generalize f nq = w3 at HP3 HL3 HB3 ⊢
          go_wp2_with fail
          go_ret
          exact tells_no (BAD.out (fun h => by have h1 := ((HLG.out i _ HY.out).1 h).1; rw [HMB.out] at h1; cases h1)) HB3.out
        | true =>
          have HM : Hid _ := HMB.out
          by_cases hlt2 : li < pn
          · have hge : decide (li ≥ pn) = false := decide_eq_false (by omega)
            have HLT : Hid _ := hlt2
            have hpre : i = 0 ∨ ∃ j : Nat, i = j + 1 := by cases i with
              | zero => exact .inl rfl
              | succ j => exact .inr ⟨j, rfl⟩
            rcases hpre with h0 | ⟨j, hj⟩
            · have hdB : decide ((i : Int) > 0) = false := decide_eq_false (by omega)
              have hdBn : decide (0 < i) = false := decide_eq_false (by omega)
              have HPREV : Aside (∀ (j : Nat) (y : LedgerR), j + 1 = i → ls[j]? = some y → y.id < li) := fun j y h => by omega
              clear h0
              obtain ⟨T, f, hf, hget⟩ := below_all w2
              obtain ⟨n0, hn0⟩ := hget w2.drew (Below.refl _ _).drew
              have hne : Nonempty T := ⟨n0⟩
              have hcall := fun n => (hml (f n) (hf n)).mono (fun e w' (h : e = .returned (.bool _) ∧ Below (f n).heap.size (f n) w') => (⟨h.1, hget w' (bthen (hf n) h.2)⟩ : e = .returned (.bool _) ∧ ∃ m, w' = f m))
              have HF : Aside (∀ n, Below w2.heap.size w2 (f n)) := hf
              have s0 := fun n => ((hf n).cell (p := ⟨w.heap.size, 0, none⟩) hz0).trans t0
              have s1 := fun n => ((hf n).cell (p := ⟨w.heap.size, 1, none⟩) hz0).trans t1
              have s2 := fun n => ((hf n).cell (p := ⟨w.heap.size, 2, none⟩) hz0).trans t2
              have s3 := fun n => ((hf n).cell (p := ⟨w.heap.size, 3, none⟩) hz0).trans t3
              have s4 := fun n => ((hf n).cell (p := ⟨w.heap.size, 4, none⟩) hz0).trans t4
              have m0 := fun n => ((hf n).cell (p := ⟨wo.heap.size, 0, none⟩) hz1).trans l0
              have m1 := fun n => ((hf n).cell (p := ⟨wo.heap.size, 1, none⟩) hz1).trans l1
              have m2 := fun n => ((hf n).cell (p := ⟨wo.heap.size, 2, none⟩) hz1).trans l2
              have m3 := fun n => ((hf n).cell (p := ⟨wo.heap.size, 3, none⟩) hz1).trans l3
              have m4 := fun n => ((hf n).cell (p := ⟨wo.heap.size, 4, none⟩) hz1).trans l4
              have m5 := fun n => ((hf n).cell (p := ⟨wo.heap.size, 5, none⟩) hz1).trans l5
              clear t0 t1 t2 t3 t4 l0 l1 l2 l3 l4 l5 hml hget hf
              refine wp_region_below f (by kernel_rfl) (by kernel_rfl) hn0 ?_
              repeat (go_big_quiet_step (exact hcall _))
              refine wpQuiet_nil ?_
              intro _ hw'
              obtain ⟨nq, hw''⟩ := hw'
              subst hw''
              have HP3 : Aside _ := box_mono HP2.out (HF.out nq)
              have HL3 : Aside _ := box_mono HL2.out (HF.out nq)
              have HB3 : Aside _ := bthen HB2.out (HF.out nq)
              clear hcall s0 s1 s2 s3 s4 m0 m1 m2 m3 m4 m5 HF hne hn0
              generalize f nq = w3 at HP3 HL3 HB3 ⊢
              clear hz0 hz1
              go_wp2_with fail
              go_loopg [5, 6] cs.length (fun gg s5 s6 wk => ∃ k N : Nat, k ≤ cs.length ∧ cs.length - k ≤ gg ∧ s6 = .int .i64 k ∧ s5 = .int .i64 N ∧ N ≤ k * 1000 ∧ Aside (N = (((cs.take k).map ChannelR.d).flatMap (·.ledgers)).count li ∧ Below w.heap.size w wk ∧ wk.heap[w.heap.size]? = some (.cells #[.int .u64 pv, .int .u64 pn, .slice ca cs.length cc, .slice (some ⟨b, off, none⟩) ls.length lc, .slice pa ps.length pc] 27 (0, 0)) ∧ wk.heap[wo.heap.size]? = some (.cells #[.int .u64 li, .int .i64 lw, .int .i64 lA, .slice fa fx.length fc, .int .i64 lcl, .int .u64 lla] 68 (0, 0))))
              case atStart => exact ⟨0, 0, Nat.zero_le _, by omega, rfl, rfl, by omega, by simp, HB3.out, HP3.out, HL3.out⟩
              case round =>
                obtain ⟨k, N, hk, hgk, rfl, rfl, hN, B⟩ := hrel
                obtain ⟨wk, rfl⟩ : ∃ wk : World, wk = wr := ⟨_, rfl⟩
                obtain ⟨-, -, t2, t3, -, -, -, -, -, -⟩ := cells5 B.out.2.2.1
                obtain ⟨l0, -, -, -, -, -, -, -, -, -, -, -⟩ := cells6 B.out.2.2.2
                by_cases hkl : k < cs.length
                · have hkz : (k : Int) < (cs.length : Int) := by omega
                  have hk0 : (0 : Int) ≤ (k : Int) := by omega
                  obtain ⟨b5, o5, c5, ha5, hy5, hb5, hat5, hok5⟩ := (HCS.out.mono B.out.2.1).get (j := k) hkl
                  dsimp only at ha5 hy5
                  have hrw := HRW.out c5 (List.mem_of_getElem? hy5)
                  have HNT : Hid _ := named_take cs li k c5 hy5
                  have hid5 := hok5.ledgers
                  have hidl := hid5.le
                  have hidc := hid5.cap
                  obtain ⟨-, -, -, -, -, -, c6, -, -⟩ := at_channel hat5
                  simp only [show eChannel.k = 9 from rfl] at c6
                  obtain ⟨ep, ow, ic, re, fi, tr, ⟨ia, icp, is⟩, se, us⟩ := c5
                  dsimp only at hrw hid5 hidl hidc c6
                  cases ha5
                  have HID : Aside _ := hid5
                  clear hat5 hok5 hy5 hid5
                  go_wp2
                  go_loopg [5, 7] is.length (fun gg s5 s7 wj => ∃ q M : Nat, q ≤ is.length ∧ is.length - q ≤ gg ∧ s7 = .int .i64 q ∧ s5 = .int .i64 M ∧ M ≤ k * 1000 + q ∧ Aside (M = (((cs.take k).map ChannelR.d).flatMap (·.ledgers)).count li + (is.take q).count li ∧ Below wk.heap.size wk wj))
                  case atStart => exact ⟨0, N, Nat.zero_le _, by omega, rfl, rfl, by omega, by rw [B.out.1]; simp, Below.refl _ _⟩
                  case round =>
                    obtain ⟨q, M, hq, hgq, rfl, rfl, hM, C⟩ := hrel
                    obtain ⟨wj, rfl⟩ : ∃ wj : World, wj = wr := ⟨_, rfl⟩
                    have bj : ∀ m, Below wj.heap.size wj (wj.drewN m) := fun m => ⟨rfl, rfl, rfl, Nat.le_refl _, fun _ _ => rfl⟩
                    have t2 := (C.out.2.cell (p := ⟨w.heap.size, 2, none⟩) (box_lt B.out.2.2.1)).trans t2
                    have l0 := (C.out.2.cell (p := ⟨wo.heap.size, 0, none⟩) (box_lt B.out.2.2.2)).trans l0
                    have c6 := (C.out.2.cell (p := ⟨b5, o5 + k * 9 + 6, none⟩) hb5).trans c6
                    by_cases hql : q < is.length
                    · have hqz : (q : Int) < (is.length : Int) := by omega
                      have hq0 : (0 : Int) ≤ (q : Int) := by omega
                      obtain ⟨b6, o6, x, ha6, hy6, hb6, hat6, _⟩ := (HID.out.mono C.out.2).get (j := q) hql
                      have x0 := at_u64 hat6
                      dsimp only at ha6 hy6
                      simp only [show eU64.k = 1 from rfl, Nat.mul_one] at x0
                      cases ha6
                      have HCT : Hid _ := count_take is li q x hy6
                      clear hat6 hy6
                      by_cases hx : x = li
                      · have HX : Hid (x = li) := hx
                        have hxe : (x == li) = true := by simpa using hx
                        clear hx
                        go_wp2_with fail
                        go_quiet (fail)
                        go_wp2
                        go_roundg (is.length - (q + 1))
                        case measure => omega
                        case rel => exact ⟨q + 1, M + 1, by omega, by omega, by go_num, by go_num, by omega, by rw [HCT.out, if_pos HX.out, C.out.1]; omega, bthen C.out.2 (bj _)⟩
                      · have HX : Hid (¬ x = li) := hx
                        have hxe : (x == li) = false := by simpa using hx
                        clear hx
                        go_wp2_with fail
                        go_quiet (fail)
                        go_wp2
                        go_roundg (is.length - (q + 1))
                        case measure => omega
                        case rel => exact ⟨q + 1, M, by omega, by omega, by go_num, rfl, by omega, by rw [HCT.out, if_neg HX.out, C.out.1]; omega, bthen C.out.2 (bj _)⟩
                    · have hqz : ¬ (q : Int) < (is.length : Int) := by omega
                      go_wp2
                      go_roundg (cs.length - (k + 1))
                      case measure => omega
                      case rel => exact ⟨k + 1, M, by omega, by omega, by go_num, rfl, by omega, named_all HNT.out C.out.1 (List.take_of_length_le (by omega)), bthen B.out.2.1 C.out.2, box_mono B.out.2.2.1 C.out.2, box_mono B.out.2.2.2 C.out.2⟩
                · have hkz : ¬ (k : Int) < (cs.length : Int) := by omega
                  have HT : Hid (cs.take k = cs) := List.take_of_length_le (by omega)
                  by_cases hN1 : N = 1
                  · subst hN1
                    have hn1 : ((1 : Nat) != 1) = false := rfl
                    go_wp2
                    go_roundg (ls.length - (i + 1))
                    case measure => omega
                    case rel =>
                      refine ⟨i + 1, by omega, by omega, by go_num, fun j' hj' => ?_, B.out.2.1, B.out.2.2.1⟩
                      by_cases he : j' = i
                      · subst he
                        exact (HLG.out j' _ HY.out).2 ⟨HM.out, HLT.out, HPREV.out, by have h1 := B.out.1; rw [HT.out] at h1; exact h1.symm⟩
                      · exact A.out.1 j' (by omega)
                  · have hne : ((N : Int) != 1) = true := by simp; omega
                    go_wp2
                    go_ret
                    exact tells_no (BAD.out (fun h => hN1 (by have h1 := ((HLG.out i _ HY.out).1 h).2.2.2; have h2 := B.out.1; rw [HT.out] at h2; exact h2.trans h1))) B.out.2.1
            · have hdB : decide ((i : Int) > 0) = true := decide_eq_true (by omega)
              have hdBn : decide (0 < i) = true := decide_eq_true (by omega)
              obtain ⟨b7, o7, y, ha7, hy7, hb7, hat7, _⟩ := (HLS.out.mono HB2.out).get (j := j) (show j < ls.length by omega)
              dsimp only at ha7 hy7
              cases ha7
              obtain ⟨y0, -⟩ := at_ledger hat7
              simp only [show eLedger.k = 6 from rfl] at y0
              have HYJ : Hid (ls[j]? = some y) := hy7
              clear hat7 hy7
              obtain ⟨yi, yw, yA, ⟨ga, gc, gx⟩, ycl, yla⟩ := y
              dsimp only at y0
              have hz2 := hb2
              have hij : (i : Int) - 1 = (j : Int) := by omega
              have hij2 : IntKind.i64.wrap ((i : Int) - 1) = (j : Int) := by rw [wrap_i64 (by omega) (by omega)]; omega
              have hj0 : (0 : Int) ≤ (j : Int) := by omega
              have hjl : (j : Int) < (ls.length : Int) := by omega
              by_cases hle : li ≤ yi
              · have hdl : decide (li ≤ yi) = true := decide_eq_true hle
                obtain ⟨T, f, hf, hget⟩ := below_all w2
                obtain ⟨n0, hn0⟩ := hget w2.drew (Below.refl _ _).drew
                have hne : Nonempty T := ⟨n0⟩
                have hcall := fun n => (hml (f n) (hf n)).mono (fun e w' (h : e = .returned (.bool _) ∧ Below (f n).heap.size (f n) w') => (⟨h.1, hget w' (bthen (hf n) h.2)⟩ : e = .returned (.bool _) ∧ ∃ m, w' = f m))
                have HF : Aside (∀ n, Below w2.heap.size w2 (f n)) := hf
                have s0 := fun n => ((hf n).cell (p := ⟨w.heap.size, 0, none⟩) hz0).trans t0
                have s1 := fun n => ((hf n).cell (p := ⟨w.heap.size, 1, none⟩) hz0).trans t1
                have s2 := fun n => ((hf n).cell (p := ⟨w.heap.size, 2, none⟩) hz0).trans t2
                have s3 := fun n => ((hf n).cell (p := ⟨w.heap.size, 3, none⟩) hz0).trans t3
                have s4 := fun n => ((hf n).cell (p := ⟨w.heap.size, 4, none⟩) hz0).trans t4
                have m0 := fun n => ((hf n).cell (p := ⟨wo.heap.size, 0, none⟩) hz1).trans l0
                have m1 := fun n => ((hf n).cell (p := ⟨wo.heap.size, 1, none⟩) hz1).trans l1
                have m2 := fun n => ((hf n).cell (p := ⟨wo.heap.size, 2, none⟩) hz1).trans l2
                have m3 := fun n => ((hf n).cell (p := ⟨wo.heap.size, 3, none⟩) hz1).trans l3
                have m4 := fun n => ((hf n).cell (p := ⟨wo.heap.size, 4, none⟩) hz1).trans l4
                have m5 := fun n => ((hf n).cell (p := ⟨wo.heap.size, 5, none⟩) hz1).trans l5
                have y0 := fun n => ((hf n).cell (p := ⟨b, off + j * 6, none⟩) hz2).trans y0
                clear t0 t1 t2 t3 t4 l0 l1 l2 l3 l4 l5 hml hget hf
                refine wp_region_below f (by kernel_rfl) (by kernel_rfl) hn0 ?_
                repeat (go_big_quiet_step (exact hcall _))
                refine wpQuiet_nil ?_
                intro _ hw'
                obtain ⟨nq, hw''⟩ := hw'
                subst hw''
                have HP3 : Aside _ := box_mono HP2.out (HF.out nq)
                have HL3 : Aside _ := box_mono HL2.out (HF.out nq)
                have HB3 : Aside _ := bthen HB2.out (HF.out nq)
                clear hcall s0 s1 s2 s3 s4 m0 m1 m2 m3 m4 m5 y0 HF hne hn0
                generalize f nq = w3 at HP3 HL3 HB3 ⊢
                go_wp2_with fail
                go_ret
                exact tells_no (BAD.out (fun h => by have h1 := ((HLG.out i _ HY.out).1 h).2.2.1 j _ hj.symm HYJ.out; dsimp only at h1; omega)) HB3.out
              · have hdl : decide (li ≤ yi) = false := decide_eq_false hle
                have HPREV : Aside (∀ (j : Nat) (y : LedgerR), j + 1 = i → ls[j]? = some y → y.id < li) := fun j' y' h h2 => by
                  obtain rfl : j' = j := by omega
                  have := HYJ.out.symm.trans h2
                  cases this
                  show yi < li
                  omega
                obtain ⟨T, f, hf, hget⟩ := below_all w2
                obtain ⟨n0, hn0⟩ := hget w2.drew (Below.refl _ _).drew
                have hne : Nonempty T := ⟨n0⟩
                have hcall := fun n => (hml (f n) (hf n)).mono (fun e w' (h : e = .returned (.bool _) ∧ Below (f n).heap.size (f n) w') => (⟨h.1, hget w' (bthen (hf n) h.2)⟩ : e = .returned (.bool _) ∧ ∃ m, w' = f m))
                have HF : Aside (∀ n, Below w2.heap.size w2 (f n)) := hf
                have s0 := fun n => ((hf n).cell (p := ⟨w.heap.size, 0, none⟩) hz0).trans t0
                have s1 := fun n => ((hf n).cell (p := ⟨w.heap.size, 1, none⟩) hz0).trans t1
                have s2 := fun n => ((hf n).cell (p := ⟨w.heap.size, 2, none⟩) hz0).trans t2
                have s3 := fun n => ((hf n).cell (p := ⟨w.heap.size, 3, none⟩) hz0).trans t3
                have s4 := fun n => ((hf n).cell (p := ⟨w.heap.size, 4, none⟩) hz0).trans t4
                have m0 := fun n => ((hf n).cell (p := ⟨wo.heap.size, 0, none⟩) hz1).trans l0
                have m1 := fun n => ((hf n).cell (p := ⟨wo.heap.size, 1, none⟩) hz1).trans l1
                have m2 := fun n => ((hf n).cell (p := ⟨wo.heap.size, 2, none⟩) hz1).trans l2
                have m3 := fun n => ((hf n).cell (p := ⟨wo.heap.size, 3, none⟩) hz1).trans l3
                have m4 := fun n => ((hf n).cell (p := ⟨wo.heap.size, 4, none⟩) hz1).trans l4
                have m5 := fun n => ((hf n).cell (p := ⟨wo.heap.size, 5, none⟩) hz1).trans l5
                have y0 := fun n => ((hf n).cell (p := ⟨b, off + j * 6, none⟩) hz2).trans y0
                clear t0 t1 t2 t3 t4 l0 l1 l2 l3 l4 l5 hml hget hf
                refine wp_region_below f (by kernel_rfl) (by kernel_rfl) hn0 ?_
                repeat (go_big_quiet_step (exact hcall _))
                refine wpQuiet_nil ?_
                intro _ hw'
                obtain ⟨nq, hw''⟩ := hw'
                subst hw''
                have HP3 : Aside _ := box_mono HP2.out (HF.out nq)
                have HL3 : Aside _ := box_mono HL2.out (HF.out nq)
                have HB3 : Aside _ := bthen HB2.out (HF.out nq)
                clear hcall s0 s1 s2 s3 s4 m0 m1 m2 m3 m4 m5 y0 HF hne hn0
                generalize f nq = w3 at HP3 HL3 HB3 ⊢
                clear hz0 hz1 hz2
                go_wp2_with fail
                go_loopg [5, 6] cs.length (fun gg s5 s6 wk => ∃ k N : Nat, k ≤ cs.length ∧ cs.length - k ≤ gg ∧ s6 = .int .i64 k ∧ s5 = .int .i64 N ∧ N ≤ k * 1000 ∧ Aside (N = (((cs.take k).map ChannelR.d).flatMap (·.ledgers)).count li ∧ Below w.heap.size w wk ∧ wk.heap[w.heap.size]? = some (.cells #[.int .u64 pv, .int .u64 pn, .slice ca cs.length cc, .slice (some ⟨b, off, none⟩) ls.length lc, .slice pa ps.length pc] 27 (0, 0)) ∧ wk.heap[wo.heap.size]? = some (.cells #[.int .u64 li, .int .i64 lw, .int .i64 lA, .slice fa fx.length fc, .int .i64 lcl, .int .u64 lla] 68 (0, 0))))
                case atStart => exact ⟨0, 0, Nat.zero_le _, by omega, rfl, rfl, by omega, by simp, HB3.out, HP3.out, HL3.out⟩
                case round =>
                  obtain ⟨k, N, hk, hgk, rfl, rfl, hN, B⟩ := hrel
                  obtain ⟨wk, rfl⟩ : ∃ wk : World, wk = wr := ⟨_, rfl⟩
                  obtain ⟨-, -, t2, t3, -, -, -, -, -, -⟩ := cells5 B.out.2.2.1
                  obtain ⟨l0, -, -, -, -, -, -, -, -, -, -, -⟩ := cells6 B.out.2.2.2
                  by_cases hkl : k < cs.length
                  · have hkz : (k : Int) < (cs.length : Int) := by omega
                    have hk0 : (0 : Int) ≤ (k : Int) := by omega
                    obtain ⟨b5, o5, c5, ha5, hy5, hb5, hat5, hok5⟩ := (HCS.out.mono B.out.2.1).get (j := k) hkl
                    dsimp only at ha5 hy5
                    have hrw := HRW.out c5 (List.mem_of_getElem? hy5)
                    have HNT : Hid _ := named_take cs li k c5 hy5
                    have hid5 := hok5.ledgers
                    have hidl := hid5.le
                    have hidc := hid5.cap
                    obtain ⟨-, -, -, -, -, -, c6, -, -⟩ := at_channel hat5
                    simp only [show eChannel.k = 9 from rfl] at c6
                    obtain ⟨ep, ow, ic, re, fi, tr, ⟨ia, icp, is⟩, se, us⟩ := c5
                    dsimp only at hrw hid5 hidl hidc c6
                    cases ha5
                    have HID : Aside _ := hid5
                    clear hat5 hok5 hy5 hid5
                    go_wp2
                    go_loopg [5, 7] is.length (fun gg s5 s7 wj => ∃ q M : Nat, q ≤ is.length ∧ is.length - q ≤ gg ∧ s7 = .int .i64 q ∧ s5 = .int .i64 M ∧ M ≤ k * 1000 + q ∧ Aside (M = (((cs.take k).map ChannelR.d).flatMap (·.ledgers)).count li + (is.take q).count li ∧ Below wk.heap.size wk wj))
                    case atStart => exact ⟨0, N, Nat.zero_le _, by omega, rfl, rfl, by omega, by rw [B.out.1]; simp, Below.refl _ _⟩
                    case round =>
                      obtain ⟨q, M, hq, hgq, rfl, rfl, hM, C⟩ := hrel
                      obtain ⟨wj, rfl⟩ : ∃ wj : World, wj = wr := ⟨_, rfl⟩
                      have bj : ∀ m, Below wj.heap.size wj (wj.drewN m) := fun m => ⟨rfl, rfl, rfl, Nat.le_refl _, fun _ _ => rfl⟩
                      have t2 := (C.out.2.cell (p := ⟨w.heap.size, 2, none⟩) (box_lt B.out.2.2.1)).trans t2
                      have l0 := (C.out.2.cell (p := ⟨wo.heap.size, 0, none⟩) (box_lt B.out.2.2.2)).trans l0
                      have c6 := (C.out.2.cell (p := ⟨b5, o5 + k * 9 + 6, none⟩) hb5).trans c6
                      by_cases hql : q < is.length
                      · have hqz : (q : Int) < (is.length : Int) := by omega
                        have hq0 : (0 : Int) ≤ (q : Int) := by omega
                        obtain ⟨b6, o6, x, ha6, hy6, hb6, hat6, _⟩ := (HID.out.mono C.out.2).get (j := q) hql
                        have x0 := at_u64 hat6
                        dsimp only at ha6 hy6
                        simp only [show eU64.k = 1 from rfl, Nat.mul_one] at x0
                        cases ha6
                        have HCT : Hid _ := count_take is li q x hy6
                        clear hat6 hy6
                        by_cases hx : x = li
                        · have HX : Hid (x = li) := hx
                          have hxe : (x == li) = true := by simpa using hx
                          clear hx
                          go_wp2_with fail
                          go_quiet (fail)
                          go_wp2
                          go_roundg (is.length - (q + 1))
                          case measure => omega
                          case rel => exact ⟨q + 1, M + 1, by omega, by omega, by go_num, by go_num, by omega, by rw [HCT.out, if_pos HX.out, C.out.1]; omega, bthen C.out.2 (bj _)⟩
                        · have HX : Hid (¬ x = li) := hx
                          have hxe : (x == li) = false := by simpa using hx
                          clear hx
                          go_wp2_with fail
                          go_quiet (fail)
                          go_wp2
                          go_roundg (is.length - (q + 1))
                          case measure => omega
                          case rel => exact ⟨q + 1, M, by omega, by omega, by go_num, rfl, by omega, by rw [HCT.out, if_neg HX.out, C.out.1]; omega, bthen C.out.2 (bj _)⟩
                      · have hqz : ¬ (q : Int) < (is.length : Int) := by omega
                        go_wp2
                        go_roundg (cs.length - (k + 1))
                        case measure => omega
                        case rel => exact ⟨k + 1, M, by omega, by omega, by go_num, rfl, by omega, named_all HNT.out C.out.1 (List.take_of_length_le (by omega)), bthen B.out.2.1 C.out.2, box_mono B.out.2.2.1 C.out.2, box_mono B.out.2.2.2 C.out.2⟩
                  · have hkz : ¬ (k : Int) < (cs.length : Int) := by omega
                    have HT : Hid (cs.take k = cs) := List.take_of_length_le (by omega)
                    by_cases hN1 : N = 1
                    · subst hN1
                      have hn1 : ((1 : Nat) != 1) = false := rfl
                      go_wp2
                      go_roundg (ls.length - (i + 1))
                      case measure => omega
                      case rel =>
                        refine ⟨i + 1, by omega, by omega, by go_num, fun j' hj' => ?_, B.out.2.1, B.out.2.2.1⟩
                        by_cases he : j' = i
                        · subst he
                          exact (HLG.out j' _ HY.out).2 ⟨HM.out, HLT.out, HPREV.out, by have h1 := B.out.1; rw [HT.out] at h1; exact h1.symm⟩
                        · exact A.out.1 j' (by omega)
                    · have hne : ((N : Int) != 1) = true := by simp; omega
                      go_wp2
                      go_ret
                      exact tells_no (BAD.out (fun h => hN1 (by have h1 := ((HLG.out i _ HY.out).1 h).2.2.2; have h2 := B.out.1; rw [HT.out] at h2; exact h2.trans h1))) B.out.2.1
          · have hge : decide (li ≥ pn) = true := decide_eq_true (by omega)
            obtain ⟨T, f, hf, hget⟩ := below_all w2
            obtain ⟨n0, hn0⟩ := hget w2.drew (Below.refl _ _).drew
            have hne : Nonempty T := ⟨n0⟩
            have hcall := fun n => (hml (f n) (hf n)).mono (fun e w' (h : e = .returned (.bool _) ∧ Below (f n).heap.size (f n) w') => (⟨h.1, hget w' (bthen (hf n) h.2)⟩ : e = .returned (.bool _) ∧ ∃ m, w' = f m))
            have HF : Aside (∀ n, Below w2.heap.size w2 (f n)) := hf
            have s0 := fun n => ((hf n).cell (p := ⟨w.heap.size, 0, none⟩) hz0).trans t0
            have s1 := fun n => ((hf n).cell (p := ⟨w.heap.size, 1, none⟩) hz0).trans t1
            have s2 := fun n => ((hf n).cell (p := ⟨w.heap.size, 2, none⟩) hz0).trans t2
            have s3 := fun n => ((hf n).cell (p := ⟨w.heap.size, 3, none⟩) hz0).trans t3
            have s4 := fun n => ((hf n).cell (p := ⟨w.heap.size, 4, none⟩) hz0).trans t4
            have m0 := fun n => ((hf n).cell (p := ⟨wo.heap.size, 0, none⟩) hz1).trans l0
            have m1 := fun n => ((hf n).cell (p := ⟨wo.heap.size, 1, none⟩) hz1).trans l1
            have m2 := fun n => ((hf n).cell (p := ⟨wo.heap.size, 2, none⟩) hz1).trans l2
            have m3 := fun n => ((hf n).cell (p := ⟨wo.heap.size, 3, none⟩) hz1).trans l3
            have m4 := fun n => ((hf n).cell (p := ⟨wo.heap.size, 4, none⟩) hz1).trans l4
            have m5 := fun n => ((hf n).cell (p := ⟨wo.heap.size, 5, none⟩) hz1).trans l5
            clear t0 t1 t2 t3 t4 l0 l1 l2 l3 l4 l5 hml hget hf
            refine wp_region_below f (by kernel_rfl) (by kernel_rfl) hn0 ?_
            repeat (go_big_quiet_step (exact hcall _))
            refine wpQuiet_nil ?_
            intro _ hw'
            obtain ⟨nq, hw''⟩ := hw'
            subst hw''
            have HP3 : Aside _ := box_mono HP2.out (HF.out nq)
            have HL3 : Aside _ := box_mono HL2.out (HF.out nq)
            have HB3 : Aside _ := bthen HB2.out (HF.out nq)
            clear hcall s0 s1 s2 s3 s4 m0 m1 m2 m3 m4 m5 HF hne hn0
            generalize f nq = w3 at HP3 HL3 HB3 ⊢
            go_wp2_with fail
            go_ret
            exact tells_no (BAD.out (fun h => by have h1 := ((HLG.out i _ HY.out).1 h).2.1; dsimp only at h1; omega)) HB3.out
      · have hltz : ¬ (i : Int) < (ls.length : Int) := by omega
        obtain ⟨-, -, t2, t3, -, -, -, -, -, -⟩ := cells5 A.out.2.2
        have HALL : Aside (∀ j, j < ls.length → LG j) := fun j hj => A.out.1 j (by omega)
        go_wp2
        have HB4 : Aside (Below w.heap.size w wo) := A.out.2.1
        have HP4 : Aside _ := A.out.2.2
        clear t2 t3 hltz
        go_loopg [8] cs.length (fun gg s8 wr => ∃ k : Nat, k ≤ cs.length ∧ cs.length - k ≤ gg ∧ s8 = .int .i64 ((k : Int) + 1) ∧ Aside ((∀ (j : Nat) (c : ChannelR), j < k → cs[j]? = some c → CG c) ∧ Below w.heap.size w wr ∧ wr.heap[w.heap.size]? = some (.cells #[.int .u64 pv, .int .u64 pn, .slice ca cs.length cc, .slice la ls.length lc, .slice pa ps.length pc] 27 (0, 0))))
        case atStart => exact ⟨0, Nat.zero_le _, by omega, rfl, fun j c hj => absurd hj (Nat.not_lt_zero _), HB4.out, HP4.out⟩
        case round =>
          obtain ⟨k, hk, hgk, rfl, B⟩ := hrel
          obtain ⟨wk, rfl⟩ : ∃ wk : World, wk = wr := ⟨_, rfl⟩
          obtain ⟨t0, t1, t2, t3, t4, -, -, -, -, -⟩ := cells5 B.out.2.2
          by_cases hkl : k < cs.length
          · have hkz : (k : Int) + 1 ≤ (cs.length : Int) := by omega
            obtain ⟨c, hc⟩ : ∃ c, cs[k]? = some c := ⟨_, List.getElem?_eq_getElem hkl⟩
            have hcall := HCH.out wk B.out.2.1 k c hc
            have HC : Hid (cs[k]? = some c) := hc
            clear hc
            go_wp2_with (go_at_call 114; refine hcall.mono ?_; rintro e w5 ⟨r5, rfl, hr5, hb5⟩; have HR5 : Aside (r5 = true ↔ CG c) := hr5; have HB5 : Aside _ := bthen B.out.2.1 hb5; have HP5 : Aside _ := box_mono B.out.2.2 hb5; clear hr5 hb5; cases r5)
            · go_ret
              exact tells_no (fun h => by have h1 := HR5.out.2 ((HR.out.1 h).2.2.1 k c HC.out); cases h1) HB5.out
            · go_roundg (cs.length - (k + 1))
              case measure => omega
              case rel =>
                refine ⟨k + 1, by omega, by omega, by go_num, fun j c' hj hc' => ?_, HB5.out, HP5.out⟩
                by_cases he : j = k
                · subst he
                  have := HC.out.symm.trans hc'
                  cases this
                  exact HR5.out.1 (by simp)
                · exact B.out.1 j c' (by omega) hc'
          · have hkz : ¬ (k : Int) + 1 ≤ (cs.length : Int) := by omega
            have HCA : Aside (∀ (j : Nat) (c : ChannelR), cs[j]? = some c → CG c) := fun j c hc => B.out.1 j c (by have := (List.getElem?_eq_some_iff.1 hc).1; omega) hc
            exact absurd ⟨HALL.out, HCA.out⟩ HN.out
end Go.Proofs.YtdiamknibfamdaaGreat
