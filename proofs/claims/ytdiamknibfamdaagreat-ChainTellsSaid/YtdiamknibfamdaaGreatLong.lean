/- Whether a plan is more than is gone through. -/
import Derived.Test.YtdiamknibfamdaaGreatPln
namespace Go.Proofs.YtdiamknibfamdaaGreat
open Go.RowKit Go.Shelf

def longFragsB (l : List FragR) : Bool := decide (30 < l.length) || l.any fun f => decide (30 < f.bookies.xs.length)
theorem any_take_step {α : Type} {l : List α} {q : α → Bool} {k : Nat} {x : α} (hx : l[k]? = some x) (hq : q x = false) (h : (l.take k).any q = false) : (l.take (k + 1)).any q = false := by
  rw [List.take_add_one, hx, List.any_append, h]
  simp [hq]
theorem any_of_get {α : Type} {l : List α} {q : α → Bool} {k : Nat} {x : α} (hx : l[k]? = some x) (hq : q x = true) : l.any q = true := List.any_eq_true.2 ⟨x, List.mem_of_getElem? hx, hq⟩

set_option maxHeartbeats 1000000 in
theorem longFrags43 (s : Sl FragR) (w : World) (hs : SlOk eFrag w s) : Calls Tryz.prog 43 #[.slice s.a s.xs.length s.c] w fun e w' => e = .returned (.bool (longFragsB s.xs)) ∧ w = w' := by
  have hle := hs.le
  have hcap := hs.cap
  obtain ⟨a, c, xs⟩ := s
  have e0 : longFragsB xs = (decide (30 < xs.length) || xs.any fun f => decide (30 < f.bookies.xs.length)) := rfl
  dsimp only at hle hcap ⊢
  generalize longFragsB xs = r at e0 ⊢
  have E0 : Hid _ := e0
  clear e0
  by_cases h30 : 30 < xs.length
  · have hz : (30 : Int) < (xs.length : Int) := by omega
    go_enter Tryz.func43, Tryz.ntmps43
    go_wp2
    go_ret
    exact ⟨ret_bool (by rw [E0.out]; simp [h30]), rfl⟩
  · have hz : ¬ (30 : Int) < (xs.length : Int) := by omega
    have HS : Aside _ := hs
    clear hs
    go_enter Tryz.func43, Tryz.ntmps43
    go_wp2
    go_loop [3] (fun i => ∃ k : Nat, k ≤ xs.length ∧ i = .int .i64 k ∧ Hid ((xs.take k).any (fun f => decide (30 < f.bookies.xs.length)) = false)) (fun i => xs.length - (intOf i).toNat)
    case atStart => exact ⟨0, Nat.zero_le _, rfl, rfl⟩
    case round =>
      obtain ⟨k, hk, rfl, hq⟩ := hrel
      by_cases hlt : k < xs.length
      · obtain ⟨b, off, y, ha, hy, hb, hat, hok⟩ := HS.out.get (j := k) hlt
        have hc := (at_frag hat).2
        dsimp only at ha hy
        simp only [show eFrag.k = 2 from rfl] at hc
        obtain ⟨f1, ⟨fa, fc, fx⟩⟩ := y
        have hfl := hok.2.le
        have hfc := hok.2.cap
        have HY : Hid _ := hy
        clear hat hok hy
        subst ha
        dsimp only at hc hfl hfc
        have hltz : (k : Int) < (xs.length : Int) := by omega
        by_cases hl : 30 < fx.length
        · have hlz : (30 : Int) < (fx.length : Int) := by omega
          go_wp2
          go_ret
          exact ⟨ret_bool (by rw [E0.out, any_of_get HY.out (by simpa using hl)]; simp), rfl⟩
        · have hlz : ¬ (30 : Int) < (fx.length : Int) := by omega
          go_wp2
          go_round
          case rel => exact ⟨k + 1, by omega, by go_num, any_take_step HY.out (by simpa using hl) hq.out⟩
          case measure => simp [intOf]; omega
      · have hltz : ¬ (k : Int) < (xs.length : Int) := by omega
        go_wp2
        go_ret
        refine ⟨ret_bool ?_, rfl⟩
        have := hq.out
        rw [List.take_of_length_le (by omega)] at this
        rw [E0.out, this]
        simp [h30]

def longChanB (c : ChannelR) : Bool := decide (60 < c.ledgers.xs.length) || decide (60 < c.seen.xs.length) || decide (60 < c.cursors.xs.length)
def longB (p : PlanR) : Bool :=
  decide (10 < p.channels.xs.length) || decide (60 < p.ledgers.xs.length) || decide (60 < p.past.xs.length) || p.channels.xs.any longChanB || p.ledgers.xs.any fun l => longFragsB l.frags.xs

set_option maxHeartbeats 2000000 in
set_option maxRecDepth 100000 in
theorem long13 (p : PlanR) (w : World) (hp : p.Ok w) : Calls Tryz.prog 13 #[p.v] w fun e w' => e = .returned (.bool (longB p)) ∧ Below w.heap.size w w' := by
  have hc := hp.channels
  have hl := hp.ledgers
  have hcl := hc.le
  have hcc := hc.cap
  have hll := hl.le
  have hlc := hl.cap
  have hpl := hp.past.le
  have hpc := hp.past.cap
  have e0 : longB p = (decide (10 < p.channels.xs.length) || decide (60 < p.ledgers.xs.length) || decide (60 < p.past.xs.length) || p.channels.xs.any longChanB || p.ledgers.xs.any fun l => longFragsB l.frags.xs) := rfl
  generalize longB p = r at e0 ⊢
  have E0 : Hid _ := e0
  clear e0 hp
  obtain ⟨pv, pn, ⟨ca, cc, cs⟩, ⟨la, lc, ls⟩, ⟨pa, pc, ps⟩⟩ := p
  dsimp only at *
  by_cases hs : 10 < cs.length ∨ 60 < ls.length ∨ 60 < ps.length
  · have hr : r = true := by
      rw [E0.out]
      rcases hs with h | h | h <;> simp [h]
    subst hr
    clear hc hl
    by_cases h1 : (10 : Int) < (cs.length : Int) <;> by_cases h2 : (60 : Int) < (ls.length : Int) <;> by_cases h3 : (60 : Int) < (ps.length : Int)
    all_goals first
      | (exfalso; omega)
      | (go_enter Tryz.func13, Tryz.ntmps13
         go_wp2
         go_ret
         exact ⟨rfl, b1 _ _⟩)
  · have h1 : ¬ (10 : Int) < (cs.length : Int) := by omega
    have h2 : ¬ (60 : Int) < (ls.length : Int) := by omega
    have h3 : ¬ (60 : Int) < (ps.length : Int) := by omega
    have HN : Hid _ := hs
    have HC : Aside _ := hc
    have HL : Aside _ := hl
    clear hc hl hs
    go_enter Tryz.func13, Tryz.ntmps13
    go_wp2
    go_loopg [3] cs.length (fun gg i wr => ∃ k : Nat, k ≤ cs.length ∧ cs.length - k ≤ gg ∧ i = .int .i64 k ∧ Aside ((cs.take k).any longChanB = false ∧ Below w.heap.size w wr ∧ wr.heap[w.heap.size]? = some (.cells #[.int .u64 pv, .int .u64 pn, .slice ca cs.length cc, .slice la ls.length lc, .slice pa ps.length pc] 27 (0, 0))))
    case atStart => exact ⟨0, Nat.zero_le _, by omega, rfl, rfl, b1 _ _, heap_top w _ _ rfl⟩
    case round =>
      obtain ⟨k, hk, hg, rfl, A⟩ := hrel
      obtain ⟨q0, q1, q2, q3, q4, r0, r1, r2, r3, r4⟩ := cells5 A.out.2.2
      have hz := box_lt A.out.2.2
      by_cases hlt : k < cs.length
      · obtain ⟨b, off, y, ha, hy, hb, hat, hok⟩ := (HC.out.mono A.out.2.1).get (j := k) hlt
        obtain ⟨m0, m1, m2, m3, m4, m5, m6, m7, m8⟩ := at_channel hat
        dsimp only at ha hy
        simp only [show eChannel.k = 9 from rfl] at m0 m1 m2 m3 m4 m5 m6 m7 m8
        obtain ⟨ep, ow, ic, re, fi, tr, ⟨ia, icp, is⟩, ⟨sa, sc, ss⟩, ⟨ua, uc, us⟩⟩ := y
        have i1 := hok.ledgers.le
        have i2 := hok.ledgers.cap
        have s1 := hok.seen.le
        have s2 := hok.seen.cap
        have u1 := hok.cursors.le
        have u2 := hok.cursors.cap
        have HY : Hid _ := hy
        clear hat hok hy
        subst ha
        dsimp only at *
        have hltz : (k : Int) < (cs.length : Int) := by omega
        by_cases h4 : 60 < is.length ∨ 60 < ss.length ∨ 60 < us.length
        · have hr : r = true := by
            rw [E0.out]
            rw [any_of_get HY.out (q := longChanB) (by unfold longChanB; rcases h4 with h | h | h <;> simp [h])]
            simp
          subst hr
          have HX : Hid _ := h4
          clear h4
          by_cases h5 : (60 : Int) < (is.length : Int) <;> by_cases h6 : (60 : Int) < (ss.length : Int) <;> by_cases h7 : (60 : Int) < (us.length : Int)
          all_goals first
            | (exfalso; have := HX.out; omega)
            | (go_wp2
               go_ret
               refine ⟨rfl, ?_⟩
               exact balloc A.out.2.1 _)
        · have h5 : ¬ (60 : Int) < (is.length : Int) := by omega
          have h6 : ¬ (60 : Int) < (ss.length : Int) := by omega
          have h7 : ¬ (60 : Int) < (us.length : Int) := by omega
          have hq : longChanB ⟨ep, ow, ic, re, fi, tr, ⟨ia, icp, is⟩, ⟨sa, sc, ss⟩, ⟨ua, uc, us⟩⟩ = false := by unfold longChanB; simp; omega
          have HQ : Hid _ := hq
          clear hq h4
          go_wp2
          go_roundg (cs.length - (k + 1))
          case measure => omega
          case rel =>
            refine ⟨k + 1, by omega, by omega, by go_num, any_take_step HY.out HQ.out A.out.1, ?_, ?_⟩
            · exact balloc A.out.2.1 _
            · exact box_mono A.out.2.2 (b1 _ _)
      · have hltz : ¬ (k : Int) < (cs.length : Int) := by omega
        have hall : (cs.any longChanB) = false := by
          have := A.out.1
          rwa [List.take_of_length_le (by omega)] at this
        have HALL : Hid _ := hall
        clear hall
        go_wp2
        clear q0 q1 q2 q3 q4 r0 r1 r2 r3 r4 hz
        go_loopg [5] ls.length (fun gg i wr => ∃ k : Nat, k ≤ ls.length ∧ ls.length - k ≤ gg ∧ i = .int .i64 k ∧ Aside ((ls.take k).any (fun l => longFragsB l.frags.xs) = false ∧ Below w.heap.size w wr ∧ wr.heap[w.heap.size]? = some (.cells #[.int .u64 pv, .int .u64 pn, .slice ca cs.length cc, .slice la ls.length lc, .slice pa ps.length pc] 27 (0, 0))))
        case atStart => exact ⟨0, Nat.zero_le _, by omega, rfl, rfl, A.out.2⟩
        case round =>
          clear A
          obtain ⟨k, hk, hg, rfl, A⟩ := hrel
          obtain ⟨q0, q1, q2, q3, q4, r0, r1, r2, r3, r4⟩ := cells5 A.out.2.2
          have hz := box_lt A.out.2.2
          by_cases hlt : k < ls.length
          · obtain ⟨b, off, y, ha, hy, hb, hat, hok⟩ := (HL.out.mono A.out.2.1).get (j := k) hlt
            obtain ⟨m0, m1, m2, m3, m4, m5⟩ := at_ledger hat
            dsimp only at ha hy
            simp only [show eLedger.k = 6 from rfl] at m0 m1 m2 m3 m4 m5
            obtain ⟨id, wd, ac, fr, cl, la'⟩ := y
            have hlf := longFrags43 fr wr hok.2.2.2.1
            have HY : Hid _ := hy
            clear hat hok hy
            subst ha
            dsimp only at m0 m1 m2 m3 m4 m5
            have hltz : (k : Int) < (ls.length : Int) := by omega
            cases h4 : longFragsB fr.xs with
            | true =>
              have hr : r = true := by
                rw [E0.out]
                rw [any_of_get HY.out (q := fun l => longFragsB l.frags.xs) h4]
                simp
              subst hr
              rw [h4] at hlf
              clear h4
              go_wp2_with fail
              refine hlf.mono ?_
              rintro e w' ⟨rfl, rfl⟩
              dsimp only
              go_wp2
              go_ret
              exact ⟨rfl, A.out.2.1⟩
            | false =>
              rw [h4] at hlf
              have HQ : Hid _ := h4
              clear h4
              go_wp2_with fail
              refine hlf.mono ?_
              rintro e w' ⟨rfl, rfl⟩
              dsimp only
              go_wp2
              go_roundg (ls.length - (k + 1))
              case measure => omega
              case rel => exact ⟨k + 1, by omega, by omega, by go_num, any_take_step HY.out HQ.out A.out.1, A.out.2⟩
          · have hltz : ¬ (k : Int) < (ls.length : Int) := by omega
            go_wp2
            go_ret
            refine ⟨ret_bool ?_, A.out.2.1⟩
            have h5 := A.out.1
            rw [List.take_of_length_le (by omega)] at h5
            have h6 := HN.out
            rw [E0.out, HALL.out, h5]
            simp
            omega
end Go.Proofs.YtdiamknibfamdaaGreat
