/- chain.has, chain.Keep; the chain's plain words. -/
import Derived.Test.YtdiamknibfamdaaGreatMayP
namespace Go.Proofs.YtdiamknibfamdaaGreat
open Go.RowKit Go.Shelf

/-- May the plan be, and is there such a channel? -/
def chainHasB (p : Plan) (ch : Int) : Bool := hasB p.channels.length ch && mayB p
def keepB (p : Plan) : List Int := if mayB p then p.ledgers.map (·.id) else []

set_option maxHeartbeats 1000000 in
theorem has65 (p : PlanR) (ch : Int) (w : World) (hp : p.Ok w) (hb : PlanSmall p) : Calls Tryz.prog 65 #[p.v, .int .i64 ch] w fun e w' => e = .returned (.bool (chainHasB p.d ch)) ∧ Below w.heap.size w w' := by
  have hmay := fun W (hW : Below w.heap.size w W) => may16 p W (hp.mono hW) hb
  have e0 : chainHasB p.d ch = (fromB ch 1 p.channels.xs.length && mayB p.d) := by
    show (fromB ch 1 (p.d.channels.length : Nat) && _) = _
    simp [PlanR.d]
  generalize chainHasB p.d ch = r at e0 ⊢
  generalize mayB p.d = m at hmay e0
  have E0 : Hid _ := e0
  clear e0 hp hb
  obtain ⟨pv, pn, ⟨ca, cc, cs⟩, ⟨la, lc, ls⟩, ⟨pa, pc, ps⟩⟩ := p
  dsimp only at E0 hmay ⊢
  by_cases h1 : 1 ≤ ch <;> by_cases h2 : ch ≤ (cs.length : Int)
  all_goals
    go_enter Tryz.func65, Tryz.ntmps65
    go_wp2_with (go_at_call 16; refine (hmay _ (b1 _ _)).mono ?_; rintro e w' ⟨rfl, hb'⟩)
    go_ret
    refine ⟨ret_bool (by rw [E0.out]; first | (simp [fromB, *]; done) | (simp [fromB]; intros; omega)), ?_⟩
    first | exact bthen (b1 _ _) hb' | exact b1 _ _

set_option maxHeartbeats 2000000 in
set_option maxRecDepth 100000 in
theorem keep28 (p : PlanR) (w : World) (hp : p.Ok w) (hb : PlanSmall p) : Calls Tryz.prog 28 #[p.v] w (Made eU64 22 (keepB p.d) w) := by
  obtain ⟨i0, hi, hz0, hz1, hz2⟩ := info_parts info22
  have hmay := fun W (hW : Below w.heap.size w W) => may16 p W (hp.mono hW) hb
  have hs := hp.ledgers
  have hle := hs.le
  have hcap := hs.cap
  have hn := hb.ledgers
  have e0 : keepB p.d = if mayB p.d then p.ledgers.xs.map (·.id) else [] := by
    have h2 : p.d.ledgers.map (·.id) = p.ledgers.xs.map (·.id) := by
      show (p.ledgers.xs.map LedgerR.d).map _ = _
      rw [List.map_map]
      rfl
    unfold keepB
    rw [h2]
  rw [e0]
  clear hp hb e0
  generalize mayB p.d = m at hmay ⊢
  obtain ⟨pv, pn, ⟨ca, cc, cs⟩, ⟨la, lc, ls⟩, ⟨pa, pc, ps⟩⟩ := p
  dsimp only at hs hle hcap hn hmay ⊢
  cases m with
  | false =>
    go_enter Tryz.func28, Tryz.ntmps28
    go_wp2_with (go_at_call 16; refine (hmay _ (b1 _ _)).mono ?_; rintro e w' ⟨rfl, hb'⟩)
    go_ret
    exact made_mk rfl (show _ from ⟨by simp, .inl ⟨rfl, rfl⟩⟩) (fun x h => by cases h) (bthen (b1 _ _) hb')
  | true =>
    go_enter Tryz.func28, Tryz.ntmps28
    go_wp2_with fail
    refine (hmay _ (b1 _ _)).mono ?_
    rintro e w1 ⟨rfl, hb'⟩
    have hB1 := bthen (b1 w _) hb'
    have hP1 := box_mono (heap_top w _ _ rfl) hb'
    obtain ⟨c0, c1, c2, c3, c4, f0, f1, f2, f3, f4⟩ := cells5 hP1
    have HB1 : Aside _ := hB1
    clear hb' hP1 hB1 hmay
    dsimp only
    go_wp2_with fail
    go_loopg [3, 12] ls.length (fun gg s3 s9 wr => ∃ kk : Nat, kk ≤ ls.length ∧ ls.length - kk ≤ gg ∧ s9 = .int .i64 kk ∧ Aside (NumsSoFar w wr ((ls.take kk).map (·.id)) s3))
    case atStart => exact ⟨0, Nat.zero_le _, by omega, rfl, nums_start w HB1.out⟩
    case round =>
      obtain ⟨kk, hkk, hg, rfl, S⟩ := hrel
      by_cases hlt : kk < ls.length
      · obtain ⟨b, off, y, ha, hy, hblk, hat, hok⟩ := (hs.mono S.out.2.2).get (j := kk) hlt
        have hc := at_ledger hat
        dsimp only at ha hy
        simp only [show eLedger.k = 6 from rfl] at hc
        obtain ⟨c0, c1, c2, c3, c4, c5⟩ := hc
        have hU : U64 y.id := hok.1
        have htk : (ls.take (kk + 1)).map (·.id) = (ls.take kk).map (·.id) ++ [y.id] := by rw [List.take_add_one, hy]; simp
        have HTK : Hid _ := htk
        have HU : Hid _ := hU
        obtain ⟨yi, yw, ya, ⟨fa, fc, fx⟩, yc, yl⟩ := y
        clear hat hok hs htk hU hy
        subst ha
        have hltz : (kk : Int) < (ls.length : Int) := by omega
        have hlen : ((ls.take kk).map (·.id)).length = kk := by simp; omega
        have HLEN : Hid _ := hlen
        clear hlen
        go_wp2_with (at_builtin; refine wpList_append_own _ rfl _ _ 38 rfl w.heap.size 22 i0 (.int .u64 0) 1 8 Tryz.underlying38 hi hz0 hz1 hz2 rfl (by decide) _ _ _ rfl (own_below S.out.1 (balloc (b1 _ _) _)) ⟨wr.heap.size + 1, 0, none⟩ 1 1 [.int .u64 yi] rfl rfl ?qc2 ?qc3 ?qc4 ?qc5 ?qc6 ?_)
        case qc3 => rfl
        case qc4 => unfold maxLen; omega
        case qc5 => omega
        case qc6 => have h1 := S.out.2.2.size; simp; omega
        intro v' w3 hown3 hgrow hnil
        have hst := nums_step (ys := [yi]) (S.out.below (balloc (b1 _ _) _)) (fun x hx => by simp at hx; subst hx; exact HU.out) (by rw [HLEN.out, List.map_take]; exact hown3) hgrow
        have HST : Aside _ := hst
        clear hst hown3 hgrow hnil
        go_wp2
        go_roundg (ls.length - (kk + 1))
        case measure => omega
        case rel => exact ⟨kk + 1, by omega, by omega, by go_num, by rw [HTK.out]; exact HST.out⟩
      · have hltz : ¬ (kk : Int) < (ls.length : Int) := by omega
        clear hs
        go_wp2
        go_ret
        rw [List.take_of_length_le (by omega)] at S
        exact made_mk rfl S.out.1 S.out.2.1 S.out.2.2
end Go.Proofs.YtdiamknibfamdaaGreat
