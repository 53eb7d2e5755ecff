/- The references of layer 20: Has, Keep. -/
import Derived.Test.YtdiamknibfamdaaGreatRfU
import Derived.Test.YtdiamknibfamdaaGreatRfZ
import Derived.Test.YtdiamknibfamdaaGreatIter
import Derived.Test.YtdiamknibfamdaaGreatGone
namespace Go.Proofs.YtdiamknibfamdaaGreat
open Go.RowKit Go.Shelf

theorem refMayB70 (p : PlanR) (w : World) (hp : p.Ok w) (hb : PlanSmall p) : Calls Tryz.prog 70 #[p.v] w fun e w' => e = .returned (.bool (mayB p.d)) ∧ Below w.heap.size w w' :=
  (refMay70 p w hp hb).mono fun e w' ⟨r, he, hr, hB⟩ => by
    have h1 := refMay_iff p.d (fun c hc => by obtain ⟨x, hx, rfl⟩ := List.mem_map.1 hc; exact (hp.channels.ok x hx).epoch.1)
    have h2 : r = mayB p.d := Bool.eq_iff_iff.2 (hr.trans h1)
    exact ⟨by rw [he, h2], hB⟩

set_option maxHeartbeats 1000000 in
theorem refHas67 (p : PlanR) (ch : Int) (w : World) (hp : p.Ok w) (hb : PlanSmall p) : Calls Tryz.prog 67 #[p.v, .int .i64 ch] w fun e w' => e = .returned (.bool (chainHasB p.d ch)) ∧ Below w.heap.size w w' := by
  have hmay := fun W (hW : Below w.heap.size w W) => refMayB70 p W (hp.mono hW) hb
  have e0 : chainHasB p.d ch = (fromB ch 1 p.channels.xs.length && mayB p.d) := by
    show (fromB ch 1 (p.d.channels.length : Nat) && _) = _
    simp [PlanR.d]
  generalize chainHasB p.d ch = r at e0 ⊢
  generalize mayB p.d = m at hmay e0
  have E0 : Hid _ := e0
  clear e0 hp hb
  obtain ⟨pv, pn, ⟨ca, cc, cs⟩, ⟨la, lc, ls⟩, ⟨pa, pc, ps⟩⟩ := p
  dsimp only at E0 hmay ⊢
  cases m
  all_goals
    go_enter Tryz.func67, Tryz.ntmps67
    go_wp2_with fail
    refine (hmay _ (b1 _ _)).mono ?_
    rintro e w3 ⟨rfl, hb3⟩
    have h0 := box_mono (heap_top w _ _ rfl) hb3
    have HB3 : Aside _ := bthen (b1 w _) hb3
    clear hb3
    obtain ⟨t0, t1, t2, t3, t4, -, -, -, -, -⟩ := cells5 h0
    go_wp2
    all_goals
      go_ret
      refine ⟨ret_bool (by rw [E0.out]; first | (simp [fromB, *]; done) | (simp [fromB]; intros; omega)), HB3.out⟩
end Go.Proofs.YtdiamknibfamdaaGreat
/- The references of layer 20: Keep. -/
namespace Go.Proofs.YtdiamknibfamdaaGreat
open Go.RowKit Go.Shelf

set_option maxHeartbeats 2000000 in
set_option maxRecDepth 100000 in
theorem refKeep29 (p : PlanR) (w : World) (hp : p.Ok w) (hb : PlanSmall p) : Calls Tryz.prog 29 #[p.v] w (Made eU64 22 (keepB p.d) w) := by
  obtain ⟨i0, hi, hz0, hz1, hz2⟩ := info_parts info22
  have hmay := fun W (hW : Below w.heap.size w W) => refMayB70 p W (hp.mono hW) hb
  have hs := hp.ledgers
  have hle := hs.le
  have hcap := hs.cap
  have hn := hb.ledgers
  have e0 : keepB p.d = if mayB p.d then p.ledgers.xs.map (·.id) else [] := by
    have h2 : p.d.ledgers.map (·.id) = p.ledgers.xs.map (·.id) := by
      show (p.ledgers.xs.map LedgerR.d).map _ = _
      rw [List.map_map]
      rfl
    unfold keepB
    rw [h2]
  rw [e0]
  clear hp hb e0
  generalize mayB p.d = m at hmay ⊢
  obtain ⟨pv, pn, ⟨ca, cc, cs⟩, ⟨la, lc, ls⟩, ⟨pa, pc, ps⟩⟩ := p
  dsimp only at hs hle hcap hn hmay ⊢
  have HM : Aside _ := hmay
  have HS : Aside _ := hs
  clear hmay hs
  go_enter Tryz.func29, Tryz.ntmps29
  go_wp2
  go_loopg [3, 4] ls.length (fun gg s3 s4 wr => ∃ kk : Nat, kk ≤ ls.length ∧ ls.length - kk ≤ gg ∧ s4 = .int .i64 kk ∧ Aside (NumsSoFar w wr ((ls.take kk).map (·.id)) s3 ∧ wr.heap[w.heap.size]? = some (.cells #[.int .u64 pv, .int .u64 pn, .slice ca cs.length cc, .slice la ls.length lc, .slice pa ps.length pc] 27 (0, 0)) ∧ (m = false → kk = 0)))
  case atStart => exact ⟨0, Nat.zero_le _, by omega, rfl, nums_start w (b1 _ _), heap_top w _ _ rfl, fun _ => rfl⟩
  case round =>
    obtain ⟨kk, hkk, hg, rfl, A⟩ := hrel
    obtain ⟨wo, rfl⟩ : ∃ wo : World, wo = wr := ⟨_, rfl⟩
    obtain ⟨t0, t1, t2, t3, t4, -, -, -, -, -⟩ := cells5 A.out.2.1
    by_cases hlt : kk < ls.length
    · have hltz : (kk : Int) < (ls.length : Int) := by omega
      have hltd : decide ((kk : Int) < (ls.length : Int)) = true := decide_eq_true hltz
      have hkk0 : (0 : Int) ≤ (kk : Int) := by omega
      go_wp2_with fail
      refine (HM.out wo A.out.1.2.2).mono ?_
      rintro e w3 ⟨rfl, hb3⟩
      have S3 : Aside (NumsSoFar w w3 ((ls.take kk).map (·.id)) _) := A.out.1.below hb3
      have P3 : Aside _ := box_mono A.out.2.1 hb3
      have Z : Aside (m = false → kk = 0) := A.out.2.2
      clear t0 t1 t2 t3 t4 A hb3
      obtain ⟨t0, t1, t2, t3, t4, -, -, -, -, -⟩ := cells5 P3.out
      cases m with
      | false =>
        have hk0 := Z.out (by simp)
        have HK : Hid (kk = 0) := hk0
        clear hk0
        go_wp2
        go_ret
        have h1 := S3.out
        rw [HK.out] at h1
        exact made_mk rfl h1.1 h1.2.1 h1.2.2
      | true =>
        obtain ⟨b, off, y, ha, hy, hblk, hat, hok⟩ := (HS.out.mono S3.out.2.2).get (j := kk) hlt
        have hc := at_ledger hat
        dsimp only at ha hy
        simp only [show eLedger.k = 6 from rfl] at hc
        obtain ⟨c0, c1, c2, c3, c4, c5⟩ := hc
        have hU : U64 y.id := hok.1
        have htk : (ls.take (kk + 1)).map (·.id) = (ls.take kk).map (·.id) ++ [y.id] := by rw [List.take_add_one, hy]; simp
        have HTK : Hid _ := htk
        have HU : Hid _ := hU
        obtain ⟨yi, yw, ya, ⟨fa, fc, fx⟩, yc, yl⟩ := y
        clear hat hok htk hU hy
        subst ha
        have hlen : ((ls.take kk).map (·.id)).length = kk := by simp; omega
        have HLEN : Hid _ := hlen
        clear hlen
        go_wp2_with (at_builtin; refine wpList_append_own _ rfl _ _ 38 rfl w.heap.size 22 i0 (.int .u64 0) 1 8 Tryz.underlying38 hi hz0 hz1 hz2 rfl (by decide) _ _ _ rfl (own_below S3.out.1 (b1 _ _)) ⟨w3.heap.size, 0, none⟩ 1 1 [.int .u64 yi] rfl rfl ?qc2 ?qc3 ?qc4 ?qc5 ?qc6 ?_)
        case qc2 =>
          intro j u hj
          cases j with
          | zero => cases hj; exact (cells1 (heap_top w3 _ _ rfl)).1
          | succ j => simp at hj
        case qc3 => intro u hu; simp at hu; subst hu; rfl
        case qc4 => have h1 := HLEN.out; unfold maxLen; omega
        case qc5 => have h1 := HLEN.out; omega
        case qc6 => have h1 := S3.out.2.2.size; simp; omega
        intro v' w4 hown4 hgrow hnil
        have hst := nums_step (ys := [yi]) (S3.out.below (b1 _ _)) (fun x hx => by simp at hx; subst hx; exact HU.out) (by rw [HLEN.out, List.map_take]; exact hown4) hgrow
        have hbx : w4.heap[w.heap.size]? = some (.cells #[.int .u64 pv, .int .u64 pn, .slice ca cs.length cc, .slice (some ⟨b, off, none⟩) ls.length lc, .slice pa ps.length pc] 27 (0, 0)) := grown_box S3.out.1 hgrow P3.out (.inl (by decide))
        have HST : Aside _ := hst
        have HBX : Aside _ := hbx
        clear hst hown4 hgrow hnil hbx
        go_wp2
        go_roundg (ls.length - (kk + 1))
        case measure => omega
        case rel => exact ⟨kk + 1, by omega, by omega, by go_num, by rw [HTK.out]; exact HST.out, HBX.out, fun h => by cases h⟩
    · have hltz : ¬ (kk : Int) < (ls.length : Int) := by omega
      have hltd : decide ((kk : Int) < (ls.length : Int)) = false := decide_eq_false hltz
      have HT : Hid (ls.take kk = ls) := List.take_of_length_le (by omega)
      have HK : Hid (ls.length ≤ kk) := by show _ ≤ _; omega
      cases m with
      | false =>
        go_wp2
        go_ret
        have h1 := A.out.1
        have h2 := A.out.2.2 (by simp)
        subst h2
        exact made_mk rfl h1.1 h1.2.1 h1.2.2
      | true =>
        go_wp2
        go_ret
        have h1 := A.out.1
        rw [HT.out] at h1
        exact made_mk rfl h1.1 h1.2.1 h1.2.2
end Go.Proofs.YtdiamknibfamdaaGreat
