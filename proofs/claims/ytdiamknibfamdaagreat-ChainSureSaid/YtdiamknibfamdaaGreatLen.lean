/- chain.Length. -/
import Derived.Test.YtdiamknibfamdaaGreatColl
import Derived.Deep.RegionHeld3
namespace Go.Proofs.YtdiamknibfamdaaGreat
open Go.RowKit Go.Shelf

def chanOf (p : Plan) (ch : Int) : Channel := p.channels.getD (ch - 1).toNat default
def lengthB (p : Plan) (ch sure : Int) : Int := if chainHasB p ch then addU (chanOf p ch).first (spotsB p ch sure).length else 0

/-- A channel that is there, in memory. -/
theorem chan_there {p : PlanR} {ch : Int} {w : World} (hp : p.Ok w) (h : chainHasB p.d ch = true) :
    ∃ (k : Nat) (c : ChannelR) (b off : Nat), ch = (k : Int) + 1 ∧ k < p.channels.xs.length ∧ p.channels.xs[k]? = some c ∧ p.channels.a = some ⟨b, off, none⟩ ∧ b < w.heap.size ∧ At eChannel w b (off + k * 9) c ∧ c.Ok w ∧ chanOf p.d ch = c.d ∧ mayB p.d = true := by
  obtain ⟨hh1, hmay⟩ : hasB p.d.channels.length ch = true ∧ mayB p.d = true := by simpa [chainHasB] using h
  obtain ⟨k, rfl⟩ : ∃ k : Nat, ch = (k : Int) + 1 := ⟨(ch - 1).toNat, by simp [hasB, fromB] at hh1; omega⟩
  have hkl : k < p.channels.xs.length := by simp [hasB, fromB, PlanR.d] at hh1; omega
  obtain ⟨b, off, c, ha, hy, hbk, hat, hok⟩ := hp.channels.get (j := k) hkl
  refine ⟨k, c, b, off, rfl, hkl, hy, ha, hbk, hat, hok, ?_, hmay⟩
  unfold chanOf
  rw [show ((k : Int) + 1 - 1).toNat = k by omega]
  simp [PlanR.d, List.getD, hy]

theorem wrap_u64 (x : Int) : IntKind.u64.wrap x = x % 18446744073709551616 := by
  unfold IntKind.wrap
  simp [IntKind.signed, IntKind.bits]

set_option maxHeartbeats 2000000 in
set_option maxRecDepth 100000 in
theorem length18 (p : PlanR) (ch sure : Int) (w : World) (hp : p.Ok w) (hb : PlanSmall p) (hs : U64 sure) : Calls Tryz.prog 18 #[p.v, .int .i64 ch, .int .u64 sure] w fun e w' => e = .returned (.int .u64 (lengthB p.d ch sure)) ∧ Below w.heap.size w w' := by
  have hhas := fun W (hW : Below w.heap.size w W) => has65 p ch W (hp.mono hW) hb
  have hall := fun W (hW : Below w.heap.size w W) => all15 p ch sure W (hp.mono hW) hb hs
  have e0 : lengthB p.d ch sure = if chainHasB p.d ch then addU (chanOf p.d ch).first (spotsB p.d ch sure).length else 0 := rfl
  cases hh : chainHasB p.d ch with
  | false =>
    simp only [hh] at hhas e0
    generalize lengthB p.d ch sure = r at e0 ⊢
    have E0 : Hid _ := e0
    clear e0 hall hp hb hs
    obtain ⟨pv, pn, ⟨ca, cc, cs⟩, ⟨la, lc, ls⟩, ⟨pa, pc, ps⟩⟩ := p
    go_enter Tryz.func18, Tryz.ntmps18
    go_wp2_with (go_at_call 65; refine (hhas _ (b1 _ _)).mono ?_; rintro e w' ⟨rfl, hb'⟩)
    go_ret
    exact ⟨ret_u64 (by rw [E0.out]; rfl), bthen (b1 _ _) hb'⟩
  | true =>
    obtain ⟨k, c, b, off, rfl, hkl, hy, ha, hbk, hat, hok, hco, hmay⟩ := chan_there hp hh
    have hcap := hp.channels.cap
    have hle := hp.channels.le
    have hcell := (at_channel hat).2.2.2.2.1
    have hk0 : (0 : Int) ≤ (k : Int) + 1 - 1 := by omega
    have hk2 : (k : Int) + 1 - 1 < (p.channels.xs.length : Int) := by omega
    have hk3 : ((k : Int) + 1 - 1).toNat = k := by omega
    have hw1 : IntKind.i64.wrap ((k : Int) + 1 - 1) = (k : Int) := by rw [wrap_i64 (by omega) (by omega)]; omega
    have hw2 : IntKind.i64.wrap (k : Int) = (k : Int) := wrap_i64 (by omega) (by omega)
    have hk5 : (0 : Int) ≤ (k : Int) := by omega
    have hk4 : (k : Int) < (p.channels.xs.length : Int) := by omega
    have hfi := hok.first
    simp only [hh] at hhas e0
    rw [hco] at e0
    generalize lengthB p.d ((k : Int) + 1) sure = r at e0 ⊢
    generalize spotsB p.d ((k : Int) + 1) sure = SS at e0 hall
    have E0 : Hid _ := e0
    clear e0 hp hb hs hat hok hy hh hco hmay
    obtain ⟨ep, ow, ic, re, fi, tr, ⟨ia, icp, is⟩, ⟨sa, sc, ss⟩, ⟨ua, uc, us⟩⟩ := c
    obtain ⟨pv, pn, ⟨ca, cc, cs⟩, ⟨la, lc, ls⟩, ⟨pa, pc, ps⟩⟩ := p
    dsimp only [PlanR.v] at *
    subst ha
    go_enter Tryz.func18, Tryz.ntmps18
    go_wp2_with fail
    refine (hhas _ (b1 _ _)).mono ?_
    rintro e w1 ⟨rfl, hb1⟩
    have hB1 := bthen (b1 w _) hb1
    obtain ⟨q0, q1, q2, q3, q4, r0, r1, r2, r3, r4⟩ := cells5 (box_mono (heap_top w _ _ rfl) hb1)
    have hz := box_lt (box_mono (heap_top w _ _ rfl) hb1)
    have n4 := (hB1.cell (p := ⟨b, off + k * 9 + 4, none⟩) hbk).trans hcell
    have HB1 : Aside _ := hB1
    clear hb1 hB1 hcell hhas
    dsimp only
    go_wp2_with fail
    have hSW : ∀ w', Below w1.heap.size w1 w' → w'.cell? ⟨w.heap.size, 0, none⟩ = some (.int .u64 pv) ∧ w'.cell? ⟨w.heap.size, 1, none⟩ = some (.int .u64 pn) ∧ w'.cell? ⟨w.heap.size, 2, none⟩ = some (.slice (some ⟨b, off, none⟩) cs.length cc) ∧ w'.cell? ⟨w.heap.size, 3, none⟩ = some (.slice la ls.length lc) ∧ w'.cell? ⟨w.heap.size, 4, none⟩ = some (.slice pa ps.length pc) ∧ w'.cell? ⟨b, off + k * 9 + 4, none⟩ = some (.int .u64 fi) := fun w' hW => ⟨(hW.cell (p := ⟨w.heap.size, 0, none⟩) hz).trans q0, (hW.cell (p := ⟨w.heap.size, 1, none⟩) hz).trans q1, (hW.cell (p := ⟨w.heap.size, 2, none⟩) hz).trans q2, (hW.cell (p := ⟨w.heap.size, 3, none⟩) hz).trans q3, (hW.cell (p := ⟨w.heap.size, 4, none⟩) hz).trans q4, (hW.cell (p := ⟨b, off + k * 9 + 4, none⟩) (blt HB1.out hbk)).trans n4⟩
    have hS0 := hSW _ (Below.refl _ w1).drew
    go_region_held3 (fun w' => w'.cell? ⟨w.heap.size, 0, none⟩ = some (.int .u64 pv) ∧ w'.cell? ⟨w.heap.size, 1, none⟩ = some (.int .u64 pn) ∧ w'.cell? ⟨w.heap.size, 2, none⟩ = some (.slice (some ⟨b, off, none⟩) cs.length cc) ∧ w'.cell? ⟨w.heap.size, 3, none⟩ = some (.slice la ls.length lc) ∧ w'.cell? ⟨w.heap.size, 4, none⟩ = some (.slice pa ps.length pc) ∧ w'.cell? ⟨b, off + k * 9 + 4, none⟩ = some (.int .u64 fi)) (first | (with_reducible exact hS3) | (with_reducible exact hS0)) (first | (go_at_call 15; (with_reducible refine (hall w1.drew ?_).mono ?_); exact bthen HB1.out (Below.refl _ _).drew; rintro x w3 ⟨a3, c3, rfl, hs3, ho3, hbb3⟩; have hB3 : Below w1.heap.size w1 w3 := bthen (Below.refl _ _).drew hbb3; have hS3 := hSW _ hB3))
    have HB3 : Aside _ := hB3
    clear hS3 hB3 hbb3 hS0 hSW hs3 ho3
    go_wp2
    go_ret
    refine ⟨ret_u64 ?_, bthen HB1.out HB3.out⟩
    rw [E0.out, wrap_u64, wrap_u64, if_pos trivial]
    show _ = (fi + (SS.length : Int)) % 18446744073709551616
    omega
end Go.Proofs.YtdiamknibfamdaaGreat
