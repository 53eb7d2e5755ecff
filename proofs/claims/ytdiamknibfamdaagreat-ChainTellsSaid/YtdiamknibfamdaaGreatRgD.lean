/- The references of layer 20: Length, Find, Offset. -/
import Derived.Test.YtdiamknibfamdaaGreatRgB
import Derived.Test.YtdiamknibfamdaaGreatPlC
namespace Go.Proofs.YtdiamknibfamdaaGreat
open Go.RowKit Go.Shelf

set_option maxHeartbeats 2000000 in
set_option maxRecDepth 100000 in
theorem refLength23 (p : PlanR) (ch sure : Int) (w : World) (hp : p.Ok w) (hb : PlanSmall p) (hs : U64 sure) : Calls Tryz.prog 23 #[p.v, .int .i64 ch, .int .u64 sure] w fun e w' => e = .returned (.int .u64 (lengthB p.d ch sure)) ∧ Below w.heap.size w w' := by
  have hhas := fun W (hW : Below w.heap.size w W) => refHas67 p ch W (hp.mono hW) hb
  have hall := fun W (hW : Below w.heap.size w W) => refAll24 p ch sure W (hp.mono hW) hb hs
  have e0 : lengthB p.d ch sure = if chainHasB p.d ch then addU (chanOf p.d ch).first (spotsB p.d ch sure).length else 0 := rfl
  cases hh : chainHasB p.d ch with
  | false =>
    simp only [hh] at hhas e0
    generalize lengthB p.d ch sure = r at e0 ⊢
    have E0 : Hid _ := e0
    clear e0 hall hp hb hs
    obtain ⟨pv, pn, ⟨ca, cc, cs⟩, ⟨la, lc, ls⟩, ⟨pa, pc, ps⟩⟩ := p
    go_enter Tryz.func23, Tryz.ntmps23
    go_wp2_with (go_at_call 67; refine (hhas _ (b1 _ _)).mono ?_; rintro e w' ⟨rfl, hb'⟩)
    go_ret
    exact ⟨ret_u64 (by rw [E0.out]; rfl), bthen (b1 _ _) hb'⟩
  | true =>
    obtain ⟨k, c, b, off, rfl, hkl, hy, ha, hbk, hat, hok, hco, hmay⟩ := chan_there hp hh
    have hcap := hp.channels.cap
    have hle := hp.channels.le
    have hcell := (at_channel hat).2.2.2.2.1
    have hk0 : (0 : Int) ≤ (k : Int) + 1 - 1 := by omega
    have hk2 : (k : Int) + 1 - 1 < (p.channels.xs.length : Int) := by omega
    have hk3 : ((k : Int) + 1 - 1).toNat = k := by omega
    have hw1 : IntKind.i64.wrap ((k : Int) + 1 - 1) = (k : Int) := by rw [wrap_i64 (by omega) (by omega)]; omega
    have hw2 : IntKind.i64.wrap (k : Int) = (k : Int) := wrap_i64 (by omega) (by omega)
    have hk5 : (0 : Int) ≤ (k : Int) := by omega
    have hk4 : (k : Int) < (p.channels.xs.length : Int) := by omega
    have hfi := hok.first
    simp only [hh] at hhas e0
    rw [hco] at e0
    generalize lengthB p.d ((k : Int) + 1) sure = r at e0 ⊢
    generalize spotsB p.d ((k : Int) + 1) sure = SS at e0 hall
    have E0 : Hid _ := e0
    clear e0 hp hb hs hat hok hy hh hco hmay
    obtain ⟨ep, ow, ic, re, fi, tr, ⟨ia, icp, is⟩, ⟨sa, sc, ss⟩, ⟨ua, uc, us⟩⟩ := c
    obtain ⟨pv, pn, ⟨ca, cc, cs⟩, ⟨la, lc, ls⟩, ⟨pa, pc, ps⟩⟩ := p
    dsimp only [PlanR.v] at *
    subst ha
    go_enter Tryz.func23, Tryz.ntmps23
    go_wp2_with fail
    refine (hhas _ (b1 _ _)).mono ?_
    rintro e w1 ⟨rfl, hb1⟩
    have hB1 := bthen (b1 w _) hb1
    obtain ⟨q0, q1, q2, q3, q4, r0, r1, r2, r3, r4⟩ := cells5 (box_mono (heap_top w _ _ rfl) hb1)
    have hz := box_lt (box_mono (heap_top w _ _ rfl) hb1)
    have n4 := (hB1.cell (p := ⟨b, off + k * 9 + 4, none⟩) hbk).trans hcell
    have HB1 : Aside _ := hB1
    clear hb1 hB1 hcell hhas
    dsimp only
    go_wp2_with fail
    have hSW : ∀ w', Below w1.heap.size w1 w' → w'.cell? ⟨w.heap.size, 0, none⟩ = some (.int .u64 pv) ∧ w'.cell? ⟨w.heap.size, 1, none⟩ = some (.int .u64 pn) ∧ w'.cell? ⟨w.heap.size, 2, none⟩ = some (.slice (some ⟨b, off, none⟩) cs.length cc) ∧ w'.cell? ⟨w.heap.size, 3, none⟩ = some (.slice la ls.length lc) ∧ w'.cell? ⟨w.heap.size, 4, none⟩ = some (.slice pa ps.length pc) ∧ w'.cell? ⟨b, off + k * 9 + 4, none⟩ = some (.int .u64 fi) := fun w' hW => ⟨(hW.cell (p := ⟨w.heap.size, 0, none⟩) hz).trans q0, (hW.cell (p := ⟨w.heap.size, 1, none⟩) hz).trans q1, (hW.cell (p := ⟨w.heap.size, 2, none⟩) hz).trans q2, (hW.cell (p := ⟨w.heap.size, 3, none⟩) hz).trans q3, (hW.cell (p := ⟨w.heap.size, 4, none⟩) hz).trans q4, (hW.cell (p := ⟨b, off + k * 9 + 4, none⟩) (blt HB1.out hbk)).trans n4⟩
    have hS0 := hSW _ (Below.refl _ w1).drew
    go_region_held3 (fun w' => w'.cell? ⟨w.heap.size, 0, none⟩ = some (.int .u64 pv) ∧ w'.cell? ⟨w.heap.size, 1, none⟩ = some (.int .u64 pn) ∧ w'.cell? ⟨w.heap.size, 2, none⟩ = some (.slice (some ⟨b, off, none⟩) cs.length cc) ∧ w'.cell? ⟨w.heap.size, 3, none⟩ = some (.slice la ls.length lc) ∧ w'.cell? ⟨w.heap.size, 4, none⟩ = some (.slice pa ps.length pc) ∧ w'.cell? ⟨b, off + k * 9 + 4, none⟩ = some (.int .u64 fi)) (first | (with_reducible exact hS3) | (with_reducible exact hS0)) (first | (go_at_call 24; (with_reducible refine (hall w1.drew ?_).mono ?_); exact bthen HB1.out (Below.refl _ _).drew; rintro x w3 ⟨a3, c3, rfl, hs3, ho3, hbb3⟩; have hB3 : Below w1.heap.size w1 w3 := bthen (Below.refl _ _).drew hbb3; have hS3 := hSW _ hB3))
    have HB3 : Aside _ := hB3
    clear hS3 hB3 hbb3 hS0 hSW hs3 ho3
    go_wp2
    go_ret
    refine ⟨ret_u64 ?_, bthen HB1.out HB3.out⟩
    rw [E0.out, wrap_u64, wrap_u64, if_pos trivial]
    show _ = (fi + (SS.length : Int)) % 18446744073709551616
    omega

/-! ### Find, by the place of an offset -/
theorem spots_len {p : Plan} (hn : PlanNums p) {ch sure : Int} (h : chainHasB p ch = true) : (spotsB p ch sure).length ≤ 64 ∧ 0 ≤ (chanOf p ch).first ∧ (chanOf p ch).first ≤ 4611686018427387903 := by
  obtain ⟨hmay, hmem⟩ := chan_mem h
  have hl := leds_of hn hmay
  have hc := chan_ok hn hmay hmem
  have h8 := hc.eight
  refine ⟨?_, hc.first⟩
  rw [spots_eq sure h]
  have hlen : ∀ (ids : List Int) (e : Int), idsOkB p.ledgers ids = true → (spotsL p.ledgers sure e ids).length ≤ 8 * ids.length := by
    intro ids
    induction ids with
    | nil => intro e _; exact Nat.zero_le _
    | cons id t ih =>
      intro e hk
      obtain ⟨l, hf, _, hk'⟩ := ids_head hk
      have := cnt_le hl (findL_id hf).1 sure
      have := ih (addU e l.last) hk'
      rw [spotsL_cons sure e t hf, List.length_append, spotsAt_len, List.length_cons]
      omega
  have := hlen _ (chanOf p ch).first hc.ids
  omega
theorem refOne {p : Plan} (hn : PlanNums p) {ch sure o : Int} (_ho : U64 o) (hh : chainHasB p ch = true) : oneB p ch sure (fun x => decide (x.offset = o)) =
    if o < (chanOf p ch).first ∨ ((spotsB p ch sure).length : Int) ≤ o - (chanOf p ch).first then (⟨0, 0, 0⟩, 4) else ((spotsB p ch sure).getD (o - (chanOf p ch).first).toNat default, 0) := by
  obtain ⟨hl, hf0, hf1⟩ := spots_len hn (sure := sure) hh
  split
  · rename_i hno
    unfold oneB
    rw [if_pos hh]
    have : (spotsB p ch sure).find? (fun x => decide (x.offset = o)) = none := by
      rw [List.find?_eq_none]
      intro s hs
      obtain ⟨i, hi⟩ := List.mem_iff_getElem?.1 hs
      have h1 := (spots_back hn sure hh hi).1
      have hi2 := (List.getElem?_eq_some_iff.1 hi).1
      rw [addU_small (by omega) (by omega)] at h1
      simp only [decide_eq_true_eq]
      omega
    rw [this]
  · rename_i hyes
    simp only [not_or, Int.not_lt, Int.not_le] at hyes
    obtain ⟨i, hi⟩ : ∃ i : Nat, (i : Int) = o - (chanOf p ch).first := ⟨(o - (chanOf p ch).first).toNat, by omega⟩
    have hlt : i < (spotsB p ch sure).length := by omega
    have h1 := (spots_back hn sure hh (List.getElem?_eq_getElem hlt)).2.1
    rw [addU_small (by omega) (by omega), show (chanOf p ch).first + (i : Int) = o by omega] at h1
    rw [h1, show (o - (chanOf p ch).first).toNat = i by omega, List.getD_eq_getElem?_getD, List.getElem?_eq_getElem hlt]
    rfl

set_option maxHeartbeats 4000000 in
set_option maxRecDepth 100000 in
theorem refFind21 (p : PlanR) (ch sure o : Int) (w : World) (hp : p.Ok w) (hb : PlanSmall p) (hs : U64 sure) (ho : U64 o) :
    Calls Tryz.prog 21 #[p.v, .int .i64 ch, .int .u64 sure, .int .u64 o] w fun e w' => e = .returned (.tuple #[(oneB p.d ch sure fun x => decide (x.offset = o)).1.v, .int .i64 (oneB p.d ch sure fun x => decide (x.offset = o)).2]) ∧ Below w.heap.size w w' := by
  have hhas := fun W (hW : Below w.heap.size w W) => refHas67 p ch W (hp.mono hW) hb
  have hall := fun W (hW : Below w.heap.size w W) => refAll24 p ch sure W (hp.mono hW) hb hs
  cases hh : chainHasB p.d ch with
  | false =>
    have e0 : oneB p.d ch sure (fun x => decide (x.offset = o)) = (⟨0, 0, 0⟩, 1) := by unfold oneB; rw [hh]; rfl
    rw [e0]
    simp only [hh] at hhas
    clear hp hb hs hall e0
    obtain ⟨pv, pn, ⟨ca, cc, cs⟩, ⟨la, lc, ls⟩, ⟨pa, pc, ps⟩⟩ := p
    go_enter Tryz.func21, Tryz.ntmps21
    go_wp2_with fail
    refine (hhas _ (balloc (b1 _ _) _)).mono ?_
    rintro e w' ⟨rfl, hb'⟩
    obtain ⟨d0, d1, d2, f0, f1, f2⟩ := cells3 (box_mono (heap2_1 w _ _) hb')
    have hz := box_lt (box_mono (heap2_1 w _ _) hb')
    have HB : Aside (Below w.heap.size w w') := bthen (balloc (b1 _ _) _) hb'
    clear hb' hhas
    dsimp only
    go_wp2
    refine bodyPost_ret (v := .tuple #[Spot.v ⟨0, 0, 0⟩, .int .i64 1]) (by simp [results, Tryz.results21, go_sem, *]) rfl ⟨rfl, ?_⟩
    exact Far.below (lo := w.heap.size + 1) (hi := w.heap.size + 1 + 1) (by repeat (first | (with_reducible refine far_set ?_ ⟨by simp, by simp⟩) | (with_reducible exact far_refl _ _ _))) HB.out (by omega)
  | true =>
    obtain ⟨k, c, b, off, rfl, hkl, hy, ha, hbk, hat, hok, hco, hmay⟩ := chan_there hp hh
    have hR := refOne (nums_of hp) (sure := sure) ho hh
    have hln := (spots_len (nums_of hp) (sure := sure) hh).1
    rw [hco] at hR
    have hcap := hp.channels.cap
    have hle := hp.channels.le
    have hcell := (at_channel hat).2.2.2.2.1
    have hk0 : (0 : Int) ≤ (k : Int) + 1 - 1 := by omega
    have hk2 : (k : Int) + 1 - 1 < (p.channels.xs.length : Int) := by omega
    have hk3 : ((k : Int) + 1 - 1).toNat = k := by omega
    have hw1 : IntKind.i64.wrap ((k : Int) + 1 - 1) = (k : Int) := by rw [wrap_i64 (by omega) (by omega)]; omega
    have hw2 : IntKind.i64.wrap (k : Int) = (k : Int) := wrap_i64 (by omega) (by omega)
    have hk5 : (0 : Int) ≤ (k : Int) := by omega
    have hk4 : (k : Int) < (p.channels.xs.length : Int) := by omega
    have hfi := hok.first
    simp only [hh] at hhas
    generalize oneB p.d ((k : Int) + 1) sure (fun x => decide (x.offset = o)) = R at hR ⊢
    generalize spotsB p.d ((k : Int) + 1) sure = SS at hR hall hln
    have HR : Hid _ := hR
    have HO : Hid (U64 o) := ho
    have HFI : Hid (U64 c.first) := hfi
    clear hR hp hb hs hat hok hy hh hco hmay ho hfi
    obtain ⟨ep, ow, ic, re, fi, tr, ⟨ia, icp, is⟩, ⟨sa, sc, ss⟩, ⟨ua, uc, us⟩⟩ := c
    obtain ⟨pv, pn, ⟨ca, cc, cs⟩, ⟨la, lc, ls⟩, ⟨pa, pc, ps⟩⟩ := p
    dsimp only [PlanR.v] at *
    subst ha
    go_enter Tryz.func21, Tryz.ntmps21
    go_wp2_with fail
    refine (hhas _ (balloc (b1 _ _) _)).mono ?_
    rintro e w1 ⟨rfl, hb1⟩
    have hB1 := bthen (balloc (b1 w _) _) hb1
    have HP1 : Aside _ := box_mono (heap2_0 w _ _) hb1
    have HZ1 : Aside _ := box_mono (heap2_1 w _ _) hb1
    obtain ⟨q0, q1, q2, q3, q4, r0, r1, r2, r3, r4⟩ := cells5 HP1.out
    have HB1 : Aside (Below w.heap.size w w1) := hB1
    clear hb1 hB1 hhas
    dsimp only
    go_wp2_with fail
    refine (hall w1 HB1.out).mono ?_
    rintro e w3 ⟨a3, c3, rfl, hs3, ho3, hb3⟩
    have HP3 : Aside _ := box_mono HP1.out hb3
    have HZ3 : Aside _ := box_mono HZ1.out hb3
    have HB3 : Aside (Below w.heap.size w w3) := bthen HB1.out hb3
    clear q0 q1 q2 q3 q4 r0 r1 r2 r3 r4 hall
    obtain ⟨q0, q1, q2, q3, q4, r0, r1, r2, r3, r4⟩ := cells5 HP3.out
    obtain ⟨d0, d1, d2, f0, f1, f2⟩ := cells3 HZ3.out
    have hz := box_lt HZ3.out
    have n4 := (HB3.out.cell (p := ⟨b, off + k * 9 + 4, none⟩) hbk).trans hcell
    have hle3 := hs3.le
    have hcap3 := hs3.cap
    have HS3 : Aside (SlOk eSpot w3 ⟨a3, c3, SS⟩) := hs3
    have hlz : ((SS.length : Nat) : Int) < 18446744073709551616 := by omega
    have hwl : IntKind.u64.wrap ((SS.length : Nat) : Int) = SS.length := by rw [wrap_u64]; exact Int.emod_eq_of_lt (by omega) hlz
    dsimp only at hle3 hcap3
    clear hb3 hs3 ho3 hcell
    dsimp only
    have hU1 := HO.out
    have hU2 := HFI.out
    unfold U64 at hU1 hU2
    by_cases c1 : o < fi
    · have hx1 : decide (o < fi) = true := decide_eq_true c1
      have HE : Hid (R = (⟨0, 0, 0⟩, 4)) := by show R = _; rw [HR.out, if_pos (.inl c1)]
      clear c1
      go_wp2
      refine bodyPost_ret (v := .tuple #[Spot.v ⟨0, 0, 0⟩, .int .i64 4]) (by simp [results, Tryz.results21, go_sem, *]) rfl ?_
      rw [HE.out]
      exact ⟨rfl, Far.below (lo := w.heap.size + 1) (hi := w.heap.size + 1 + 1) (by repeat (first | (with_reducible refine far_set ?_ ⟨by simp, by simp⟩) | (with_reducible exact far_refl _ _ _))) HB3.out (by omega)⟩
    · have hx1 : decide (o < fi) = false := decide_eq_false c1
      have hws : IntKind.u64.wrap (o - fi) = o - fi := by rw [wrap_u64]; exact Int.emod_eq_of_lt (by omega) (by omega)
      by_cases c2 : ((SS.length : Nat) : Int) ≤ o - fi
      · have hx2 : decide (o - fi ≥ ((SS.length : Nat) : Int)) = true := decide_eq_true c2
        have hx3 : decide (((SS.length : Nat) : Int) ≤ o - fi) = true := decide_eq_true c2
        have HE : Hid (R = (⟨0, 0, 0⟩, 4)) := by show R = _; rw [HR.out, if_pos (.inr c2)]
        clear c1 c2
        go_wp2
        refine bodyPost_ret (v := .tuple #[Spot.v ⟨0, 0, 0⟩, .int .i64 4]) (by simp [results, Tryz.results21, go_sem, *]) rfl ?_
        rw [HE.out]
        exact ⟨rfl, Far.below (lo := w.heap.size + 1) (hi := w.heap.size + 1 + 1) (by repeat (first | (with_reducible refine far_set ?_ ⟨by simp, by simp⟩) | (with_reducible exact far_refl _ _ _))) HB3.out (by omega)⟩
      · have hx2 : decide (o - fi ≥ ((SS.length : Nat) : Int)) = false := decide_eq_false c2
        have hx3 : decide (((SS.length : Nat) : Int) ≤ o - fi) = false := decide_eq_false c2
        obtain ⟨i, hi⟩ : ∃ i : Nat, (i : Int) = o - fi := ⟨(o - fi).toNat, by omega⟩
        have hlt : i < SS.length := by omega
        obtain ⟨b5, o5, s, ha5, hy5, hb5, hat5, _⟩ := HS3.out.get (j := i) hlt
        obtain ⟨s0, s1, s2⟩ := at_spot hat5
        dsimp only at ha5 hy5
        simp only [show eSpot.k = 3 from rfl] at s0 s1 s2
        cases ha5
        have HE : Hid (R = (s, 0)) := by
          have h1 : R = (SS.getD (o - fi).toNat default, 0) := by rw [HR.out, if_neg (by simp only [not_or]; exact ⟨c1, c2⟩)]; rfl
          show R = _
          rw [h1, show (o - fi).toNat = i by omega, List.getD_eq_getElem?_getD, hy5]
          rfl
        obtain ⟨so, sl, sn⟩ := s
        dsimp only at s0 s1 s2
        have hws2 : IntKind.u64.wrap (o - fi) = (i : Int) := by rw [hws]; exact hi.symm
        have hx4 : decide ((i : Int) ≥ ((SS.length : Nat) : Int)) = false := decide_eq_false (by omega)
        have hx5 : decide (((SS.length : Nat) : Int) ≤ (i : Int)) = false := decide_eq_false (by omega)
        have hx6 : decide (SS.length ≤ i) = false := decide_eq_false (by omega)
        have hi0 : (0 : Int) ≤ (i : Int) := by omega
        have hi1 : (i : Int) < (SS.length : Int) := by omega
        clear c1 c2 hat5 hy5 hi hws hx2 hx3
        go_wp2
        refine bodyPost_ret (v := .tuple #[Spot.v ⟨so, sl, sn⟩, .int .i64 0]) (by simp [results, Tryz.results21, go_sem, *]) rfl ?_
        rw [HE.out]
        exact ⟨rfl, Far.below (lo := w.heap.size + 1) (hi := w.heap.size + 1 + 1) (by repeat (first | (with_reducible refine far_set ?_ ⟨by simp, by simp⟩) | (with_reducible exact far_refl _ _ _))) HB3.out (by omega)⟩

/-! ### Offset, by a walk of the spots -/
theorem find_not {α : Type} {q : α → Bool} {l : List α} {i : Nat} {s : α} (hi : l[i]? = some s) (hq : q s = true) (h : ∀ (j : Nat) (t : α), j < i → l[j]? = some t → q t = false) : l.find? q = some s := by
  rw [List.find?_eq_some_iff_getElem]
  obtain ⟨hlt, he⟩ := List.getElem?_eq_some_iff.1 hi
  refine ⟨hq, i, hlt, he, fun j hj => ?_⟩
  have := h j l[j] hj (List.getElem?_eq_getElem _)
  simp [this]

set_option maxHeartbeats 4000000 in
set_option maxRecDepth 100000 in
theorem refOffset22 (p : PlanR) (ch sure l n : Int) (w : World) (hp : p.Ok w) (hb : PlanSmall p) (hs : U64 sure) :
    Calls Tryz.prog 22 #[p.v, .int .i64 ch, .int .u64 sure, .int .u64 l, .int .u64 n] w fun e w' => e = .returned (.tuple #[.int .u64 (oneB p.d ch sure fun x => decide (x.ledger = l) && decide (x.n = n)).1.offset, .int .i64 (oneB p.d ch sure fun x => decide (x.ledger = l) && decide (x.n = n)).2]) ∧ Below w.heap.size w w' := by
  have hhas := fun W (hW : Below w.heap.size w W) => refHas67 p ch W (hp.mono hW) hb
  have hall := fun W (hW : Below w.heap.size w W) => refAll24 p ch sure W (hp.mono hW) hb hs
  have hone : oneB p.d ch sure (fun x => decide (x.ledger = l) && decide (x.n = n)) = if chainHasB p.d ch then (match (spotsB p.d ch sure).find? (fun x => decide (x.ledger = l) && decide (x.n = n)) with | some s => (s, (0 : Int)) | none => ((⟨0, 0, 0⟩ : Spot), (4 : Int))) else ((⟨0, 0, 0⟩ : Spot), (1 : Int)) := rfl
  generalize oneB p.d ch sure (fun x => decide (x.ledger = l) && decide (x.n = n)) = R at hone ⊢
  cases hh : chainHasB p.d ch with
  | false =>
    rw [hh] at hone
    have HE : Hid (R = (⟨0, 0, 0⟩, 1)) := hone
    simp only [hh] at hhas
    clear hp hb hs hall hone hh
    obtain ⟨pv, pn, ⟨ca, cc, cs⟩, ⟨la, lc, ls⟩, ⟨pa, pc, ps⟩⟩ := p
    go_enter Tryz.func22, Tryz.ntmps22
    go_wp2_with fail
    refine (hhas _ (b1 _ _)).mono ?_
    rintro e w' ⟨rfl, hb'⟩
    have HB : Aside (Below w.heap.size w w') := bthen (b1 _ _) hb'
    clear hb' hhas
    dsimp only
    go_wp2
    go_ret2
    rw [HE.out]
    exact ⟨rfl, HB.out⟩
  | true =>
    rw [hh, if_pos rfl] at hone
    simp only [hh] at hhas
    have hln := (spots_len (nums_of hp) (sure := sure) hh).1
    generalize spotsB p.d ch sure = SS at hone hall hln
    have HR : Hid _ := hone
    clear hone hp hb hs hh
    obtain ⟨pv, pn, ⟨ca, cc, cs⟩, ⟨la, lc, ls⟩, ⟨pa, pc, ps⟩⟩ := p
    dsimp only [PlanR.v] at *
    go_enter Tryz.func22, Tryz.ntmps22
    go_wp2_with fail
    refine (hhas _ (b1 _ _)).mono ?_
    rintro e w1 ⟨rfl, hb1⟩
    have hB1 := bthen (b1 w _) hb1
    have HP1 : Aside _ := box_mono (heap_top w _ _ rfl) hb1
    obtain ⟨q0, q1, q2, q3, q4, r0, r1, r2, r3, r4⟩ := cells5 HP1.out
    have HB1 : Aside (Below w.heap.size w w1) := hB1
    clear hb1 hB1 hhas
    dsimp only
    go_wp2_with fail
    refine (hall w1 HB1.out).mono ?_
    rintro e w3 ⟨a3, c3, rfl, hs3, ho3, hb3⟩
    have HB3 : Aside (Below w.heap.size w w3) := bthen HB1.out hb3
    have hle3 := hs3.le
    have hcap3 := hs3.cap
    have HS3 : Aside (SlOk eSpot w3 ⟨a3, c3, SS⟩) := hs3
    dsimp only at hle3 hcap3
    clear q0 q1 q2 q3 q4 r0 r1 r2 r3 r4 hall hb3 hs3 ho3
    dsimp only
    go_wp2_with fail
    go_loopg [13] SS.length (fun gg s13 wr => ∃ i : Nat, i ≤ SS.length ∧ SS.length - i ≤ gg ∧ s13 = .int .i64 i ∧ Aside (Below w.heap.size w wr ∧ SlOk eSpot wr ⟨a3, c3, SS⟩ ∧ ∀ (j : Nat) (t : Spot), j < i → SS[j]? = some t → (decide (t.ledger = l) && decide (t.n = n)) = false))
    case atStart => exact ⟨0, Nat.zero_le _, by omega, rfl, HB3.out, HS3.out, fun j t hj => absurd hj (Nat.not_lt_zero _)⟩
    case round =>
      obtain ⟨i, hi, hg, rfl, A⟩ := hrel
      by_cases hlt : i < SS.length
      · obtain ⟨b5, o5, s, ha5, hy5, hb5, hat5, _⟩ := A.out.2.1.get (j := i) hlt
        obtain ⟨s0, s1, s2⟩ := at_spot hat5
        dsimp only at ha5 hy5
        simp only [show eSpot.k = 3 from rfl] at s0 s1 s2
        cases ha5
        have HY : Hid (SS[i]? = some s) := hy5
        have hltz : (i : Int) < (SS.length : Int) := by omega
        have hi0 : (0 : Int) ≤ (i : Int) := by omega
        obtain ⟨so, sl, sn⟩ := s
        dsimp only at s0 s1 s2
        clear hat5 hy5
        by_cases e1 : sl = l
        · have g1 : (sl == l) = true := by simpa using e1
          have E1 : Hid (sl = l) := e1
          clear e1
          by_cases e2 : sn = n
          · have g2 : (sn == n) = true := by simpa using e2
            have E2 : Hid (sn = n) := e2
            clear e2
            go_wp2
            go_ret2
            have HE : R = (⟨so, sl, sn⟩, 0) := by rw [HR.out, find_not HY.out (by simp [E1.out, E2.out]) A.out.2.2]
            rw [HE]
            exact ⟨rfl, A.out.1⟩
          · have g2 : (sn == n) = false := by simpa using e2
            have E2 : Hid (¬ sn = n) := e2
            clear e2
            go_wp2
            go_roundg (SS.length - (i + 1))
            case measure => omega
            case rel =>
              refine ⟨i + 1, by omega, by omega, by go_num, A.out.1, A.out.2.1, fun j t hj ht => ?_⟩
              by_cases he : j = i
              · rw [he, HY.out] at ht
                cases ht
                have := E2.out
                simp [this]
              · exact A.out.2.2 j t (by omega) ht
        · have g1 : (sl == l) = false := by simpa using e1
          have E1 : Hid (¬ sl = l) := e1
          clear e1
          go_wp2
          go_roundg (SS.length - (i + 1))
          case measure => omega
          case rel =>
            refine ⟨i + 1, by omega, by omega, by go_num, A.out.1, A.out.2.1, fun j t hj ht => ?_⟩
            by_cases he : j = i
            · rw [he, HY.out] at ht
              cases ht
              have := E1.out
              simp [this]
            · exact A.out.2.2 j t (by omega) ht
      · have hltz : ¬ (i : Int) < (SS.length : Int) := by omega
        go_wp2
        go_ret2
        have HE : R = (⟨0, 0, 0⟩, 4) := by
          have h1 : SS.find? (fun x => decide (x.ledger = l) && decide (x.n = n)) = none := by
            rw [List.find?_eq_none]
            intro s hs
            obtain ⟨j, hj⟩ := List.mem_iff_getElem?.1 hs
            have := A.out.2.2 j s (by have := (List.getElem?_eq_some_iff.1 hj).1; omega) hj
            rw [this]
            simp
          rw [HR.out, h1]
        rw [HE]
        exact ⟨rfl, A.out.1⟩
end Go.Proofs.YtdiamknibfamdaaGreat
/- The references of layer 20: Gone. -/
namespace Go.Proofs.YtdiamknibfamdaaGreat
open Go.RowKit Go.Shelf
attribute [local go_sem ↓] Go.wp_at_zero Go.wp_at_succ

theorem gone_mk {w wr : World} {out : List Int} {v : Value} (h : NumsSoFar w wr out v) (id f : Int) : GoneMade (out, id, f) w (.returned (.tuple #[v, .int .u64 id, .int .u64 f])) wr := by
  obtain ⟨a, c, rfl, hs⟩ := nums_done h
  exact ⟨a, c, rfl, hs, h.2.2⟩
theorem gone_cons {ls : List Ledger} {tr at_ : Int} {ids : List Int} {i : Nat} {id : Int} {l : Ledger} {out : List Int} {SB : List Int × Int × Int} (hi : ids[i]? = some id) (hf : findL ls id = some l) (h : goneL tr (seqL ls at_ (ids.drop i)) out at_ = SB) :
    (if l.closed = 0 ∨ tr < addU at_ l.last then (out, l.id, at_) else goneL tr (seqL ls (addU at_ l.last) (ids.drop (i + 1))) (out ++ [l.id]) (addU at_ l.last)) = SB := by
  have hlt := (List.getElem?_eq_some_iff.1 hi).1
  have h1 : ids.drop i = id :: ids.drop (i + 1) := by rw [List.drop_eq_getElem_cons hlt]; congr 1; exact (List.getElem?_eq_some_iff.1 hi).2
  rw [h1, seqL, lastOf, hf, goneL] at h
  exact h

set_option maxHeartbeats 8000000 in
set_option maxRecDepth 100000 in
theorem refGone26 (p : PlanR) (ch : Int) (w : World) (hp : p.Ok w) (hb : PlanSmall p) : Calls Tryz.prog 26 #[p.v, .int .i64 ch] w (GoneMade (goneB p.d ch) w) := by
  obtain ⟨i0, hi, hz0, hz1, hz2⟩ := info_parts info22
  have hhas := fun W (hW : Below w.heap.size w W) => refHas67 p ch W (hp.mono hW) hb
  cases hh : chainHasB p.d ch with
  | false =>
    have e0 : goneB p.d ch = ([], 0, 0) := by unfold goneB; rw [hh]; rfl
    rw [e0]
    simp only [hh] at hhas
    clear hp hb e0
    obtain ⟨pv, pn, ⟨ca, cc, cs⟩, ⟨la, lc, ls⟩, ⟨pa, pc, ps⟩⟩ := p
    go_enter Tryz.func26, Tryz.ntmps26
    go_wp2_with (go_at_call 67; refine (hhas _ (b1 _ _)).mono ?_; rintro e w' ⟨rfl, hb'⟩)
    go_ret3
    exact gone_mk (nums_start w (bthen (b1 _ _) hb')) 0 0
  | true =>
    obtain ⟨k, c, b, off, rfl, hkl, hy, ha, hbk, hat, hok, hco, hmay⟩ := chan_there hp hh
    have hn := nums_of hp
    have hleds := leds_of hn hmay
    have hchok := chan_ok hn hmay (chan_mem hh).2
    have hsp : goneB p.d ((k : Int) + 1) = goneL (chanOf p.d ((k : Int) + 1)).trim (seqL p.d.ledgers (chanOf p.d ((k : Int) + 1)).first (chanOf p.d ((k : Int) + 1)).ledgers) [] (chanOf p.d ((k : Int) + 1)).first := by unfold goneB; rw [hh]; rfl
    rw [hco] at hchok hsp
    have hfind := fun id W (hW : Below w.heap.size w W) => refFind68 p id W (hp.mono hW)
    have hfirst := hok.first
    have hidr := hok.ledgers
    have hidle := hidr.le
    have hidcap := hidr.cap
    have hcap := hp.channels.cap
    have hle := hp.channels.le
    have hlds := hp.ledgers
    have hldle := hlds.le
    have hldcap := hlds.cap
    have hk0 : (0 : Int) ≤ (k : Int) + 1 - 1 := by omega
    have hk2 : (k : Int) + 1 - 1 < (p.channels.xs.length : Int) := by omega
    have hk3 : ((k : Int) + 1 - 1).toNat = k := by omega
    have hw1 : IntKind.i64.wrap ((k : Int) + 1 - 1) = (k : Int) := by rw [wrap_i64 (by omega) (by omega)]; omega
    have hw2 : IntKind.i64.wrap (k : Int) = (k : Int) := wrap_i64 (by omega) (by omega)
    have hk5 : (0 : Int) ≤ (k : Int) := by omega
    have hk4 : (k : Int) < (p.channels.xs.length : Int) := by omega
    simp only [hh] at hhas
    generalize hSB : goneB p.d ((k : Int) + 1) = SB at hsp ⊢
    have HSP : Hid _ := hsp
    have HLEDS : Aside _ := hleds
    have HCH : Aside _ := hchok
    have HLD : Aside _ := hlds
    have HID : Aside _ := hidr
    have HAT : Aside _ := hat
    have HF : Aside _ := hfind
    have HFI : Hid (U64 c.first) := hfirst
    have hEND : p.d.ledgers = p.ledgers.xs.map LedgerR.d := rfl
    have HPD : Hid _ := hEND
    have h8 := hchok.eight
    have hcd : c.d.ledgers = c.ledgers.xs := rfl
    rw [hcd] at h8
    clear hSB hsp hleds hchok hlds hidr hat hfind hfirst hp hb hok hy hh hco hmay hn hEND hcd
    generalize p.d.ledgers = LS at HSP HLEDS HCH HF HPD
    obtain ⟨ep, ow, ic, re, fi, tr, ⟨ia, icp, is⟩, ⟨sa, sc, ss⟩, ⟨ua, uc, us⟩⟩ := c
    obtain ⟨pv, pn, ⟨ca, cc, cs⟩, ⟨la, lc, ls⟩, ⟨pa, pc, ps⟩⟩ := p
    dsimp only [PlanR.v] at *
    subst ha
    go_enter Tryz.func26, Tryz.ntmps26
    go_wp2_with fail
    refine (hhas _ (b1 _ _)).mono ?_
    rintro e w1 ⟨rfl, hb1⟩
    have hB1 := bthen (b1 w _) hb1
    have HP1 : Aside _ := box_mono (heap_top w _ _ rfl) hb1
    obtain ⟨q0, q1, q2, q3, q4, r0, r1, r2, r3, r4⟩ := cells5 HP1.out
    obtain ⟨d0, d1, d2, d3, d4, d5, d6, d7, d8⟩ := at_channel (At.mono (E := eChannel) HAT.out hbk hB1)
    have hz := box_lt HP1.out
    have hb2 := blt hB1 hbk
    have HB1 : Aside (Below w.heap.size w w1) := hB1
    clear hb1 hB1 hhas
    dsimp only
    go_wp2_with fail
    have HX2 : Aside _ := heap_top w1 (.cells #[.int .u64 ep, .int .i64 ow, .int .u64 ic, .int .u64 re, .int .u64 fi, .int .u64 tr, .slice ia is.length icp, .slice sa ss.length sc, .slice ua us.length uc] 42) _ rfl
    have HP2 : Aside _ := box_mono HP1.out (b1 w1 (.cells #[.int .u64 ep, .int .i64 ow, .int .u64 ic, .int .u64 re, .int .u64 fi, .int .u64 tr, .slice ia is.length icp, .slice sa ss.length sc, .slice ua us.length uc] 42))
    have HB2 : Aside (Below w.heap.size w (w1.alloc (.cells #[.int .u64 ep, .int .i64 ow, .int .u64 ic, .int .u64 re, .int .u64 fi, .int .u64 tr, .slice ia is.length icp, .slice sa ss.length sc, .slice ua us.length uc] 42))) := balloc HB1.out _
    generalize w1.alloc (.cells #[.int .u64 ep, .int .i64 ow, .int .u64 ic, .int .u64 re, .int .u64 fi, .int .u64 tr, .slice ia is.length icp, .slice sa ss.length sc, .slice ua us.length uc] 42) = w2 at HX2 HP2 HB2 ⊢
    clear q0 q1 q2 q3 q4 r0 r1 r2 r3 r4 d0 d1 d2 d3 d4 d5 d6 d7 d8
    obtain ⟨nb, hnb⟩ : ∃ nb, w1.heap.size = nb := ⟨_, rfl⟩
    rw [hnb] at HX2 ⊢
    have hnw : w.heap.size < nb := by omega
    clear hnb
    go_loopg [8, 9, 10] is.length (fun gg s8 s9 s10 wr => ∃ (i : Nat) (at_ : Int), i ≤ is.length ∧ is.length - i ≤ gg ∧ s10 = .int .i64 i ∧ s9 = .int .u64 at_ ∧ Aside (U64 at_ ∧ idsOkB LS (is.drop i) = true ∧ wr.heap[w.heap.size]? = some (.cells #[.int .u64 pv, .int .u64 pn, .slice (some ⟨b, off, none⟩) cs.length cc, .slice la ls.length lc, .slice pa ps.length pc] 27 (0, 0)) ∧ wr.heap[nb]? = some (.cells #[.int .u64 ep, .int .i64 ow, .int .u64 ic, .int .u64 re, .int .u64 fi, .int .u64 tr, .slice ia is.length icp, .slice sa ss.length sc, .slice ua us.length uc] 42 (0, 0)) ∧ ∃ out : List Int, NumsSoFar w wr out s8 ∧ out.length ≤ i ∧ goneL tr (seqL LS at_ (is.drop i)) out at_ = SB))
    case atStart => exact ⟨0, fi, Nat.zero_le _, by omega, rfl, rfl, HFI.out, HCH.out.ids, HP2.out, HX2.out, [], nums_start w HB2.out, by simp, HSP.out.symm⟩
    case round =>
      obtain ⟨i, at_, hi, hg, rfl, rfl, A⟩ := hrel
      obtain ⟨wo, rfl⟩ : ∃ wo : World, wo = wr := ⟨_, rfl⟩
      obtain ⟨hU, hids, hP, hX, out, hout, hlen, hrest⟩ := A.out
      by_cases hlt : i < is.length
      · have hbelow := hout.2.2
        obtain ⟨b3, o3, id, ha3, hy3, hb3, hat3, _⟩ := (HID.out.mono hbelow).get (j := i) hlt
        have x0 := at_u64 hat3
        dsimp only at ha3 hy3
        simp only [show eU64.k = 1 from rfl, Nat.mul_one] at x0
        cases ha3
        obtain ⟨l, hf, hcl, hids2⟩ := ids_drop hy3 hids
        have hrest2 := gone_cons hy3 hf hrest
        rw [HPD.out] at hf
        obtain ⟨q, y, hq, hyd, hidx⟩ := idxL_of hf
        have hlOk := HLEDS.out l (by rw [HPD.out]; exact (findL_id hf).1)
        obtain ⟨b4, o4, y', ha4, hy4, hb4, hat4, hok4⟩ := (HLD.out.mono hbelow).get (j := q) (List.getElem?_eq_some_iff.1 hq).1
        dsimp only at ha4 hy4
        rw [hq] at hy4
        cases hy4
        cases ha4
        have hql := (List.getElem?_eq_some_iff.1 hq).1
        obtain ⟨d0, d1, d2, d3, d4, d5⟩ := at_ledger hat4
        simp only [show eLedger.k = 6 from rfl] at d0 d1 d2 d3 d4 d5
        obtain ⟨q0, q1, q2, q3, q4, -, -, -, -, -⟩ := cells5 hP
        obtain ⟨-, -, -, -, -, -, e6, -, -, -, -, -, -, -, -, -, -, -⟩ := cells9 hX
        have hzP := box_lt hP
        have hzX := box_lt hX
        have hcall := fun W (hW : Below w.heap.size w W) => HF.out id W hW
        rw [HPD.out, hidx] at hcall
        have HOUT : Aside (NumsSoFar w wo out u8) := hout
        have HU : Hid (U64 at_) := hU
        have HLEN : Hid _ := hlen
        have HREST : Hid _ := hrest2
        have HCL : Hid _ := hcl
        have HLOK : Aside _ := hlOk
        have HID2 : Hid _ := hids2
        have HYU : Hid (U64 y.id) := hok4.1
        have HP : Aside _ := hP
        have HX : Aside _ := hX
        have HBO : Aside _ := hbelow
        have hYD : Hid (y.d = l) := hyd
        have hltz : (i : Int) < (is.length : Int) := by omega
        have hi0 : (0 : Int) ≤ (i : Int) := by omega
        have hq0 : (0 : Int) ≤ (q : Int) := by omega
        have hq1 : (q : Int) < (ls.length : Int) := by omega
        obtain ⟨li, lw, lA, ⟨fa, fc, fx⟩, lcl, lla⟩ := y
        dsimp only at d0 d1 d2 d3 d4 d5
        clear hU hids hP hX hout hlen hrest hids2 hrest2 hcl hlOk hat3 hat4 hok4 hf hidx hbelow hyd hq hy3
        go_wp2_with fail
        have hSW : ∀ w', Below wo.heap.size wo w' → w'.cell? ⟨w.heap.size, 0, none⟩ = some (.int .u64 pv) ∧ w'.cell? ⟨w.heap.size, 1, none⟩ = some (.int .u64 pn) ∧ w'.cell? ⟨w.heap.size, 2, none⟩ = some (.slice (some ⟨b, off, none⟩) cs.length cc) ∧ w'.cell? ⟨w.heap.size, 3, none⟩ = some (.slice (some ⟨b4, o4, none⟩) ls.length lc) ∧ w'.cell? ⟨w.heap.size, 4, none⟩ = some (.slice pa ps.length pc) ∧ w'.cell? ⟨nb, 6, none⟩ = some (.slice (some ⟨b3, o3, none⟩) is.length icp) ∧ w'.cell? ⟨b3, o3 + i, none⟩ = some (.int .u64 id) ∧
            w'.cell? ⟨b4, o4 + q * 6, none⟩ = some (.int .u64 li) ∧ w'.cell? ⟨b4, o4 + q * 6 + 1, none⟩ = some (.int .i64 lw) ∧ w'.cell? ⟨b4, o4 + q * 6 + 2, none⟩ = some (.int .i64 lA) ∧ w'.cell? ⟨b4, o4 + q * 6 + 3, none⟩ = some (.slice fa fx.length fc) ∧ w'.cell? ⟨b4, o4 + q * 6 + 4, none⟩ = some (.int .i64 lcl) ∧ w'.cell? ⟨b4, o4 + q * 6 + 5, none⟩ = some (.int .u64 lla) :=
          fun w' hW => ⟨(hW.cell (p := ⟨w.heap.size, 0, none⟩) hzP).trans q0, (hW.cell (p := ⟨w.heap.size, 1, none⟩) hzP).trans q1, (hW.cell (p := ⟨w.heap.size, 2, none⟩) hzP).trans q2, (hW.cell (p := ⟨w.heap.size, 3, none⟩) hzP).trans q3, (hW.cell (p := ⟨w.heap.size, 4, none⟩) hzP).trans q4, (hW.cell (p := ⟨nb, 6, none⟩) hzX).trans e6, (hW.cell (p := ⟨b3, o3 + i, none⟩) hb3).trans x0,
            (hW.cell (p := ⟨b4, o4 + q * 6, none⟩) hb4).trans d0, (hW.cell (p := ⟨b4, o4 + q * 6 + 1, none⟩) hb4).trans d1, (hW.cell (p := ⟨b4, o4 + q * 6 + 2, none⟩) hb4).trans d2, (hW.cell (p := ⟨b4, o4 + q * 6 + 3, none⟩) hb4).trans d3, (hW.cell (p := ⟨b4, o4 + q * 6 + 4, none⟩) hb4).trans d4, (hW.cell (p := ⟨b4, o4 + q * 6 + 5, none⟩) hb4).trans d5⟩
        have hS0 := hSW _ (Below.refl _ wo).drew
        have hSA := fun o => hSW _ (b1 wo o).drew
        have hSB := fun o => hSW _ (balloc (Below.refl _ wo).drew o)
        clear q0 q1 q2 q3 q4 e6 x0 d0 d1 d2 d3 d4 d5
        go_region_held3 (fun w' => w'.cell? ⟨w.heap.size, 0, none⟩ = some (.int .u64 pv) ∧ w'.cell? ⟨w.heap.size, 1, none⟩ = some (.int .u64 pn) ∧ w'.cell? ⟨w.heap.size, 2, none⟩ = some (.slice (some ⟨b, off, none⟩) cs.length cc) ∧ w'.cell? ⟨w.heap.size, 3, none⟩ = some (.slice (some ⟨b4, o4, none⟩) ls.length lc) ∧ w'.cell? ⟨w.heap.size, 4, none⟩ = some (.slice pa ps.length pc) ∧ w'.cell? ⟨nb, 6, none⟩ = some (.slice (some ⟨b3, o3, none⟩) is.length icp) ∧ w'.cell? ⟨b3, o3 + i, none⟩ = some (.int .u64 id) ∧
            w'.cell? ⟨b4, o4 + q * 6, none⟩ = some (.int .u64 li) ∧ w'.cell? ⟨b4, o4 + q * 6 + 1, none⟩ = some (.int .i64 lw) ∧ w'.cell? ⟨b4, o4 + q * 6 + 2, none⟩ = some (.int .i64 lA) ∧ w'.cell? ⟨b4, o4 + q * 6 + 3, none⟩ = some (.slice fa fx.length fc) ∧ w'.cell? ⟨b4, o4 + q * 6 + 4, none⟩ = some (.int .i64 lcl) ∧ w'.cell? ⟨b4, o4 + q * 6 + 5, none⟩ = some (.int .u64 lla))
          (first | (with_reducible exact hS3) | (with_reducible exact hS3a _) | (with_reducible exact hS0) | (with_reducible exact hSA _) | (with_reducible exact hSB _) | (refine hSW _ (Far.below (lo := wo.heap.size) (hi := wo.heap.size + 1) ?_ hB3 (Nat.le_refl _)); repeat (first | (with_reducible refine far_set ?_ ⟨by simp, by simp⟩) | (with_reducible exact far_refl _ _ _))))
          (first | (go_at_call 68; (with_reducible refine (hcall wo.drew ?_).mono ?_); exact bthen HBO.out (Below.refl _ _).drew; rintro x w3 ⟨rfl, hbb3⟩; have hB3 : Below wo.heap.size wo w3 := bthen (Below.refl _ _).drew hbb3; have hS3 := hSW _ hB3; have hS3a := fun o => hSW _ (balloc hB3 o))
                 | (go_at_call 68; (with_reducible refine (hcall (wo.alloc _).drew ?_).mono ?_); exact bthen HBO.out (b1 _ _).drew; rintro x w3 ⟨rfl, hbb3⟩; have hB3 : Below wo.heap.size wo w3 := bthen (b1 _ _).drew hbb3; have hS3 := hSW _ hB3; obtain ⟨y0, y1, y2, y3, y4, y5, z0, z1, z2, z3, z4, z5⟩ := cells6 ((hbb3.block wo.heap.size (by simp)).trans (heap_top wo _ _ rfl)); have hyz : wo.heap.size < w3.heap.size := (by have := hbb3.size; simp at this; omega)))
        · have HL : Aside _ := heap_top w3 (.cells #[.int .u64 li, .int .i64 lw, .int .i64 lA, .slice fa fx.length fc, .int .i64 lcl, .int .u64 lla] 68) _ rfl
          have HBW : Aside (Below wo.heap.size wo (w3.alloc (.cells #[.int .u64 li, .int .i64 lw, .int .i64 lA, .slice fa fx.length fc, .int .i64 lcl, .int .u64 lla] 68))) := balloc hB3 _
          clear hS0 hSA hSB hSW hS3 hS3a hbb3
          obtain ⟨r, hr⟩ : ∃ r, w3.heap.size = r := ⟨_, rfl⟩
          have hrn : wo.heap.size ≤ r := by have := hB3.size; omega
          clear hB3
          generalize w3.alloc (.cells #[.int .u64 li, .int .i64 lw, .int .i64 lA, .slice fa fx.length fc, .int .i64 lcl, .int .u64 lla] 68) = wd at HL HBW ⊢
          rw [hr] at HL ⊢
          clear hr
          have HP3 : Aside _ := box_mono HP.out HBW.out
          have HX3 : Aside _ := box_mono HX.out HBW.out
          have HO3 : Aside (NumsSoFar w wd out u8) := HOUT.out.below HBW.out
          obtain ⟨l0, l1, l2, l3, l4, l5, -, -, -, -, -, -⟩ := cells6 HL.out
          obtain ⟨-, -, -, -, -, x5, -, -, -, -, -, -, -, -, -, -, -, -⟩ := cells9 HX3.out
          have hli : l.id = li := by rw [← hYD.out]; rfl
          have hlc1 : l.closed = lcl := by rw [← hYD.out]; rfl
          have hla1 : l.last = lla := by rw [← hYD.out]; rfl
          rw [hli, hlc1, hla1] at HREST
          obtain ⟨F, hF⟩ : ∃ F, addU at_ lla = F := ⟨_, rfl⟩
          have hwa : IntKind.u64.wrap (at_ + lla) = F := by rw [wrap_addU]; exact hF
          rw [hF] at HREST
          have hFU : Hid (U64 F) := by rw [← hF]; exact addU_u64 _ _
          clear hli hlc1 hla1 hF
          have bd : ∀ m, Below wd.heap.size wd (wd.drewN m) := fun m => ⟨rfl, rfl, rfl, Nat.le_refl _, fun _ _ => rfl⟩
          by_cases z1 : lcl = 0
          · have zb : (lcl == 0) = true := by simpa using z1
            have HE : Hid (SB = (out, li, at_)) := by show SB = _; rw [← HREST.out, if_pos (.inl z1)]
            clear z1
            go_wp2
            go_quiet (fail)
            go_wp2
            go_ret3
            rw [HE.out]
            exact gone_mk (HO3.out.below (bd _)) li at_
          · have zb : (lcl == 0) = false := by simpa using z1
            by_cases z2 : tr < F
            · have zs : decide (F > tr) = true := decide_eq_true z2
              have zs2 : decide (tr < F) = true := decide_eq_true z2
              have HE : Hid (SB = (out, li, at_)) := by show SB = _; rw [← HREST.out, if_pos (.inr z2)]
              clear z1 z2
              go_wp2
              go_quiet (fail)
              go_wp2
              go_ret3
              rw [HE.out]
              exact gone_mk (HO3.out.below (bd _)) li at_
            · have zs : decide (F > tr) = false := decide_eq_false z2
              have zs2 : decide (tr < F) = false := decide_eq_false z2
              have HE : Hid (goneL tr (seqL LS F (is.drop (i + 1))) (out ++ [li]) F = SB) := by show _ = SB; rw [← HREST.out, if_neg (by simp only [not_or]; exact ⟨z1, z2⟩)]
              clear z1 z2
              go_wp2_with (at_builtin; refine wpList_append_own _ rfl _ _ 38 rfl w.heap.size 22 i0 (.int .u64 0) 1 8 Tryz.underlying38 (by assumption) hz0 hz1 hz2 rfl (by decide) _ _ _ rfl (own_below HO3.out.1 (b1 _ _)) ⟨wd.heap.size, 0, none⟩ 1 1 [.int .u64 li] rfl rfl ?_ ?_ ?_ ?_ ?_ ?_)
              · intro j u hj
                match j, hj with
                | 0, hj => cases hj; exact (cells1 (heap_top wd _ _ rfl)).1
                | j + 1, hj => simp at hj
              · intro u hu; simp at hu; subst hu; rfl
              · have h2 := HLEN.out; unfold maxLen; omega
              · have h2 := HLEN.out; omega
              · have h1 := HO3.out.2.2.size; simp; omega
              intro v' w5 hown hgrow hnil
              have hst := nums_step (ys := [li]) (HO3.out.below (b1 wd _)) (fun x hx => by simp at hx; subst hx; exact HYU.out) hown hgrow
              have hbP := grown_box HO3.out.1 hgrow HP3.out (.inl (by decide))
              have hbX := grown_box HO3.out.1 hgrow HX3.out (.inl (by decide))
              have hbL := grown_box HO3.out.1 hgrow HL.out (.inl (by decide))
              obtain ⟨-, -, -, -, -, l5, -, -, -, -, -, -⟩ := cells6 hbL
              have HST : Aside (NumsSoFar w w5 (out ++ [li]) v') := hst
              have HBP : Aside _ := hbP
              have HBX : Aside _ := hbX
              clear hst hown hgrow hnil hbP hbX hbL
              go_wp2
              go_roundg (is.length - (i + 1))
              case measure => omega
              case rel => exact ⟨i + 1, F, by omega, by omega, by go_num, rfl, hFU.out, HID2.out, HBP.out, HBX.out, out ++ [li], HST.out, by have := HLEN.out; simp; omega, HE.out⟩
        · have hz3 := hbb3.block wo.heap.size (by simp)
          have HL0 := cells_set (cells_set (cells_set (cells_set (cells_set (cells_set (hz3.trans (heap_top wo _ _ rfl)) 0 (.int .u64 li)) 1 (.int .i64 lw)) 2 (.int .i64 lA)) 3 (.slice fa fx.length fc)) 4 (.int .i64 lcl)) 5 (.int .u64 lla)
          have HL : Aside (((((((w3.setCell ⟨wo.heap.size, 0, none⟩ (.int .u64 li)).setCell ⟨wo.heap.size, 1, none⟩ (.int .i64 lw)).setCell ⟨wo.heap.size, 2, none⟩ (.int .i64 lA)).setCell ⟨wo.heap.size, 3, none⟩ (.slice fa fx.length fc)).setCell ⟨wo.heap.size, 4, none⟩ (.int .i64 lcl)).setCell ⟨wo.heap.size, 5, none⟩ (.int .u64 lla)).heap[wo.heap.size]? = some (.cells #[.int .u64 li, .int .i64 lw, .int .i64 lA, .slice fa fx.length fc, .int .i64 lcl, .int .u64 lla] 68 (0, 0))) := HL0
          have HBW : Aside (Below wo.heap.size wo ((((((w3.setCell ⟨wo.heap.size, 0, none⟩ (.int .u64 li)).setCell ⟨wo.heap.size, 1, none⟩ (.int .i64 lw)).setCell ⟨wo.heap.size, 2, none⟩ (.int .i64 lA)).setCell ⟨wo.heap.size, 3, none⟩ (.slice fa fx.length fc)).setCell ⟨wo.heap.size, 4, none⟩ (.int .i64 lcl)).setCell ⟨wo.heap.size, 5, none⟩ (.int .u64 lla))) :=
            Far.below (lo := wo.heap.size) (hi := wo.heap.size + 1) (by repeat (first | (with_reducible refine far_set ?_ ⟨by simp, by simp⟩) | (with_reducible exact far_refl _ _ _))) hB3 (Nat.le_refl _)
          clear hS0 hSA hSB hSW hS3 hbb3 hB3 y0 y1 y2 y3 y4 y5 z0 z1 z2 z3 z4 z5 hyz hz3 HL0
          obtain ⟨r, hr⟩ : ∃ r, wo.heap.size = r := ⟨_, rfl⟩
          have hrn : wo.heap.size ≤ r := by omega
          generalize (((((w3.setCell ⟨wo.heap.size, 0, none⟩ (.int .u64 li)).setCell ⟨wo.heap.size, 1, none⟩ (.int .i64 lw)).setCell ⟨wo.heap.size, 2, none⟩ (.int .i64 lA)).setCell ⟨wo.heap.size, 3, none⟩ (.slice fa fx.length fc)).setCell ⟨wo.heap.size, 4, none⟩ (.int .i64 lcl)).setCell ⟨wo.heap.size, 5, none⟩ (.int .u64 lla) = wd at HL HBW ⊢
          rw [hr] at HL ⊢
          clear hr
          have HP3 : Aside _ := box_mono HP.out HBW.out
          have HX3 : Aside _ := box_mono HX.out HBW.out
          have HO3 : Aside (NumsSoFar w wd out u8) := HOUT.out.below HBW.out
          obtain ⟨l0, l1, l2, l3, l4, l5, -, -, -, -, -, -⟩ := cells6 HL.out
          obtain ⟨-, -, -, -, -, x5, -, -, -, -, -, -, -, -, -, -, -, -⟩ := cells9 HX3.out
          have hli : l.id = li := by rw [← hYD.out]; rfl
          have hlc1 : l.closed = lcl := by rw [← hYD.out]; rfl
          have hla1 : l.last = lla := by rw [← hYD.out]; rfl
          rw [hli, hlc1, hla1] at HREST
          obtain ⟨F, hF⟩ : ∃ F, addU at_ lla = F := ⟨_, rfl⟩
          have hwa : IntKind.u64.wrap (at_ + lla) = F := by rw [wrap_addU]; exact hF
          rw [hF] at HREST
          have hFU : Hid (U64 F) := by rw [← hF]; exact addU_u64 _ _
          clear hli hlc1 hla1 hF
          have bd : ∀ m, Below wd.heap.size wd (wd.drewN m) := fun m => ⟨rfl, rfl, rfl, Nat.le_refl _, fun _ _ => rfl⟩
          by_cases z1 : lcl = 0
          · have zb : (lcl == 0) = true := by simpa using z1
            have HE : Hid (SB = (out, li, at_)) := by show SB = _; rw [← HREST.out, if_pos (.inl z1)]
            clear z1
            go_wp2
            go_quiet (fail)
            go_wp2
            go_ret3
            rw [HE.out]
            exact gone_mk (HO3.out.below (bd _)) li at_
          · have zb : (lcl == 0) = false := by simpa using z1
            by_cases z2 : tr < F
            · have zs : decide (F > tr) = true := decide_eq_true z2
              have zs2 : decide (tr < F) = true := decide_eq_true z2
              have HE : Hid (SB = (out, li, at_)) := by show SB = _; rw [← HREST.out, if_pos (.inr z2)]
              clear z1 z2
              go_wp2
              go_quiet (fail)
              go_wp2
              go_ret3
              rw [HE.out]
              exact gone_mk (HO3.out.below (bd _)) li at_
            · have zs : decide (F > tr) = false := decide_eq_false z2
              have zs2 : decide (tr < F) = false := decide_eq_false z2
              have HE : Hid (goneL tr (seqL LS F (is.drop (i + 1))) (out ++ [li]) F = SB) := by show _ = SB; rw [← HREST.out, if_neg (by simp only [not_or]; exact ⟨z1, z2⟩)]
              clear z1 z2
              go_wp2_with (at_builtin; refine wpList_append_own _ rfl _ _ 38 rfl w.heap.size 22 i0 (.int .u64 0) 1 8 Tryz.underlying38 (by assumption) hz0 hz1 hz2 rfl (by decide) _ _ _ rfl (own_below HO3.out.1 (b1 _ _)) ⟨wd.heap.size, 0, none⟩ 1 1 [.int .u64 li] rfl rfl ?_ ?_ ?_ ?_ ?_ ?_)
              · intro j u hj
                match j, hj with
                | 0, hj => cases hj; exact (cells1 (heap_top wd _ _ rfl)).1
                | j + 1, hj => simp at hj
              · intro u hu; simp at hu; subst hu; rfl
              · have h2 := HLEN.out; unfold maxLen; omega
              · have h2 := HLEN.out; omega
              · have h1 := HO3.out.2.2.size; simp; omega
              intro v' w5 hown hgrow hnil
              have hst := nums_step (ys := [li]) (HO3.out.below (b1 wd _)) (fun x hx => by simp at hx; subst hx; exact HYU.out) hown hgrow
              have hbP := grown_box HO3.out.1 hgrow HP3.out (.inl (by decide))
              have hbX := grown_box HO3.out.1 hgrow HX3.out (.inl (by decide))
              have hbL := grown_box HO3.out.1 hgrow HL.out (.inl (by decide))
              obtain ⟨-, -, -, -, -, l5, -, -, -, -, -, -⟩ := cells6 hbL
              have HST : Aside (NumsSoFar w w5 (out ++ [li]) v') := hst
              have HBP : Aside _ := hbP
              have HBX : Aside _ := hbX
              clear hst hown hgrow hnil hbP hbX hbL
              go_wp2
              go_roundg (is.length - (i + 1))
              case measure => omega
              case rel => exact ⟨i + 1, F, by omega, by omega, by go_num, rfl, hFU.out, HID2.out, HBP.out, HBX.out, out ++ [li], HST.out, by have := HLEN.out; simp; omega, HE.out⟩
      · have hltz : ¬ (i : Int) < (is.length : Int) := by omega
        obtain ⟨-, -, -, -, -, -, e6, -, -, -, -, -, -, -, -, -, -, -⟩ := cells9 hX
        have hnil : is.drop i = [] := List.drop_eq_nil_of_le (by omega)
        rw [hnil] at hrest
        have HE : Hid (SB = (out, 0, at_)) := hrest.symm
        have HOUT : Aside (NumsSoFar w wo out u8) := hout
        clear hrest hnil hout hP hX hids hlen hU
        go_wp2
        go_ret3
        rw [HE.out]
        exact gone_mk HOUT.out 0 at_
end Go.Proofs.YtdiamknibfamdaaGreat
