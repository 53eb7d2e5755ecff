/- The references of layer 20: All. -/
import Derived.Test.YtdiamknibfamdaaGreatRgK
import Derived.Test.YtdiamknibfamdaaGreatGone
import Derived.Test.YtdiamknibfamdaaGreatPlC
namespace Go.Proofs.YtdiamknibfamdaaGreat
open Go.RowKit Go.Shelf
attribute [local go_sem ↓] Go.wp_at_zero Go.wp_at_succ

/-- Spots so far. -/
def SpotsSoFar (w wr : World) (xs : List Spot) (v : Value) : Prop :=
  wr.ownsRow w.heap.size 33 3 v xs.length (xs.flatMap eSpot.enc) ∧ (∀ x ∈ xs, U64 x.offset ∧ U64 x.ledger ∧ U64 x.n) ∧ Below w.heap.size w wr
theorem spots_start (w : World) {wr : World} (h : Below w.heap.size w wr) : SpotsSoFar w wr [] (.slice none 0 0) := ⟨⟨by simp, .inl ⟨rfl, rfl⟩⟩, (fun _ h => by cases h), h⟩
theorem SpotsSoFar.below {w wr w' : World} {xs : List Spot} {v : Value} (h : SpotsSoFar w wr xs v) (hb : Below wr.heap.size wr w') : SpotsSoFar w w' xs v := ⟨own_below h.1 hb, h.2.1, bthen h.2.2 hb⟩
theorem spots_step {w wr w' : World} {xs : List Spot} {y : Spot} {v v' : Value} (h : SpotsSoFar w wr xs v) (hy : U64 y.offset ∧ U64 y.ledger ∧ U64 y.n) (ho : w'.ownsRow w.heap.size 33 3 v' (xs.length + 1) (xs.flatMap eSpot.enc ++ eSpot.enc y)) (hg : wr.grownBy w' v.ownBlock) : SpotsSoFar w w' (xs ++ [y]) v' := by
  refine ⟨by simpa using ho, fun x hx => ?_, h.2.2.grown hg h.2.2.size (fun k hk => (own_lt h.1 hk).1)⟩
  rcases List.mem_append.1 hx with hx | hx
  · exact h.2.1 x hx
  · have : x = y := by simpa using hx
    subst this
    exact hy
theorem addU_0 {a : Int} (h : U64 a) : addU a 0 = a := by unfold addU U64 at *; omega
theorem addU_1 (a : Int) (k : Nat) : addU (addU a k) 1 = addU a ((k : Int) + 1) := by unfold addU; omega
theorem spotsAt_take {sure e : Int} {l : Ledger} {k : Nat} (h : k < (cntOf sure l.closed l.last).toNat) : (spotsAt sure (e, l)).take (k + 1) = (spotsAt sure (e, l)).take k ++ [⟨addU e k, l.id, addU k 1⟩] := by
  rw [List.take_add_one]
  simp [spotsAt, h]
/-- What is still to come: the spots of the ledgers behind. -/
theorem rest_cons {ls : List Ledger} {sure at_ : Int} {ids : List Int} {i : Nat} {id : Int} {l : Ledger} {out SB : List Spot} (hi : ids[i]? = some id) (hf : findL ls id = some l) (h : out ++ spotsL ls sure at_ (ids.drop i) = SB) :
    (out ++ spotsAt sure (at_, l)) ++ spotsL ls sure (addU at_ l.last) (ids.drop (i + 1)) = SB := by
  have hlt := (List.getElem?_eq_some_iff.1 hi).1
  have h1 : ids.drop i = id :: ids.drop (i + 1) := by rw [List.drop_eq_getElem_cons hlt]; congr 1; exact (List.getElem?_eq_some_iff.1 hi).2
  rw [h1, spotsL_cons sure at_ _ hf, ← List.append_assoc] at h
  exact h
theorem ids_drop {ls : List Ledger} {ids : List Int} {i : Nat} {id : Int} (hi : ids[i]? = some id) (h : idsOkB ls (ids.drop i) = true) : ∃ l, findL ls id = some l ∧ (ids.drop (i + 1) = [] ∨ l.closed ≠ 0) ∧ idsOkB ls (ids.drop (i + 1)) = true := by
  have hlt := (List.getElem?_eq_some_iff.1 hi).1
  have h1 : ids.drop i = id :: ids.drop (i + 1) := by rw [List.drop_eq_getElem_cons hlt]; congr 1; exact (List.getElem?_eq_some_iff.1 hi).2
  rw [h1] at h
  exact ids_head h

theorem cells_set {w : World} {B : Nat} {xs : Array Value} {t : TypeId} {z : Nat × Nat} (h : w.heap[B]? = some (.cells xs t z)) (i : Nat) (v : Value) : (w.setCell ⟨B, i, none⟩ v).heap[B]? = some (.cells (xs.setIfInBounds i v) t z) := by
  simp [World.setCell, Array.getElem?_modify, h]
theorem idxL_of {ls : List LedgerR} {id : Int} {l : Ledger} (h : findL (ls.map LedgerR.d) id = some l) : ∃ (q : Nat) (y : LedgerR), ls[q]? = some y ∧ y.d = l ∧ idxL (ls.map LedgerR.d) id = q := by
  unfold findL at h
  rw [List.find?_eq_some_iff_getElem] at h
  obtain ⟨h1, q, hq, he, hj⟩ := h
  have hq' : q < ls.length := by simpa using hq
  refine ⟨q, ls[q], List.getElem?_eq_getElem hq', by simpa using he, (idxL_some (l := l) (by rw [List.getElem?_eq_getElem hq, he]) (by simpa using h1) fun j m hjq hm => ?_).1⟩
  have h2 := hj j hjq
  have h3 := (List.getElem?_eq_some_iff.1 hm).2
  rw [h3] at h2
  simpa using h2
set_option maxHeartbeats 8000000 in
set_option maxRecDepth 100000 in
theorem refAll24 (p : PlanR) (ch sure : Int) (w : World) (hp : p.Ok w) (hb : PlanSmall p) (hs : U64 sure) : Calls Tryz.prog 24 #[p.v, .int .i64 ch, .int .u64 sure] w (Made eSpot 33 (spotsB p.d ch sure) w) := by
  obtain ⟨i0, hi, hz0, hz1, hz2⟩ := info_parts info33
  have hhas := fun W (hW : Below w.heap.size w W) => refHas67 p ch W (hp.mono hW) hb
  cases hh : chainHasB p.d ch with
  | false =>
    rw [spots_none sure hh]
    simp only [hh] at hhas
    clear hp hb hs
    obtain ⟨pv, pn, ⟨ca, cc, cs⟩, ⟨la, lc, ls⟩, ⟨pa, pc, ps⟩⟩ := p
    go_enter Tryz.func24, Tryz.ntmps24
    go_wp2_with (go_at_call 67; refine (hhas _ (b1 _ _)).mono ?_; rintro e w' ⟨rfl, hb'⟩)
    go_ret
    exact made_mk rfl (show _ from ⟨by simp, .inl ⟨rfl, rfl⟩⟩) (fun x h => by cases h) (bthen (b1 _ _) hb')
  | true =>
    obtain ⟨k, c, b, off, rfl, hkl, hy, ha, hbk, hat, hok, hco, hmay⟩ := chan_there hp hh
    have hn := nums_of hp
    have hleds := leds_of hn hmay
    have hchok := chan_ok hn hmay (chan_mem hh).2
    have hsp := spots_eq (p := p.d) sure hh
    rw [hco] at hchok hsp
    have hfind := fun id W (hW : Below w.heap.size w W) => refFind68 p id W (hp.mono hW)
    have hfirst := hok.first
    have hidr := hok.ledgers
    have hidle := hidr.le
    have hidcap := hidr.cap
    have hcap := hp.channels.cap
    have hle := hp.channels.le
    have hlds := hp.ledgers
    have hldle := hlds.le
    have hldcap := hlds.cap
    have hk0 : (0 : Int) ≤ (k : Int) + 1 - 1 := by omega
    have hk2 : (k : Int) + 1 - 1 < (p.channels.xs.length : Int) := by omega
    have hk3 : ((k : Int) + 1 - 1).toNat = k := by omega
    have hw1 : IntKind.i64.wrap ((k : Int) + 1 - 1) = (k : Int) := by rw [wrap_i64 (by omega) (by omega)]; omega
    have hw2 : IntKind.i64.wrap (k : Int) = (k : Int) := wrap_i64 (by omega) (by omega)
    have hk5 : (0 : Int) ≤ (k : Int) := by omega
    have hk4 : (k : Int) < (p.channels.xs.length : Int) := by omega
    simp only [hh] at hhas
    generalize hSB : spotsB p.d ((k : Int) + 1) sure = SB at hsp ⊢
    have HSP : Hid _ := hsp
    have HLEDS : Aside _ := hleds
    have HCH : Aside _ := hchok
    have HLD : Aside _ := hlds
    have HID : Aside _ := hidr
    have HAT : Aside _ := hat
    have HF : Aside _ := hfind
    have HFI : Hid (U64 c.first) := hfirst
    have HS : Hid (U64 sure) := hs
    have hEND : p.d.ledgers = p.ledgers.xs.map LedgerR.d := rfl
    have HPD : Hid _ := hEND
    have h8 := hchok.eight
    have hcd : c.d.ledgers = c.ledgers.xs := rfl
    rw [hcd] at h8
    clear hSB hsp hleds hchok hlds hidr hat hfind hfirst hs hp hb hok hy hh hco hmay hn hEND hcd
    generalize p.d.ledgers = LS at HSP HLEDS HCH HF HPD
    obtain ⟨ep, ow, ic, re, fi, tr, ⟨ia, icp, is⟩, ⟨sa, sc, ss⟩, ⟨ua, uc, us⟩⟩ := c
    obtain ⟨pv, pn, ⟨ca, cc, cs⟩, ⟨la, lc, ls⟩, ⟨pa, pc, ps⟩⟩ := p
    dsimp only [PlanR.v] at *
    subst ha
    go_enter Tryz.func24, Tryz.ntmps24
    go_wp2_with fail
    refine (hhas _ (b1 _ _)).mono ?_
    rintro e w1 ⟨rfl, hb1⟩
    have hB1 := bthen (b1 w _) hb1
    have HP1 : Aside _ := box_mono (heap_top w _ _ rfl) hb1
    obtain ⟨q0, q1, q2, q3, q4, r0, r1, r2, r3, r4⟩ := cells5 HP1.out
    obtain ⟨d0, d1, d2, d3, d4, d5, d6, d7, d8⟩ := at_channel (At.mono (E := eChannel) HAT.out hbk hB1)
    have hz := box_lt HP1.out
    have hb2 := blt hB1 hbk
    have HB1 : Aside (Below w.heap.size w w1) := hB1
    clear hb1 hB1 hhas
    dsimp only
    go_wp2_with fail
    have HX2 : Aside _ := heap_top w1 (.cells #[.int .u64 ep, .int .i64 ow, .int .u64 ic, .int .u64 re, .int .u64 fi, .int .u64 tr, .slice ia is.length icp, .slice sa ss.length sc, .slice ua us.length uc] 42) _ rfl
    have HP2 : Aside _ := box_mono HP1.out (b1 w1 (.cells #[.int .u64 ep, .int .i64 ow, .int .u64 ic, .int .u64 re, .int .u64 fi, .int .u64 tr, .slice ia is.length icp, .slice sa ss.length sc, .slice ua us.length uc] 42))
    have HB2 : Aside (Below w.heap.size w (w1.alloc (.cells #[.int .u64 ep, .int .i64 ow, .int .u64 ic, .int .u64 re, .int .u64 fi, .int .u64 tr, .slice ia is.length icp, .slice sa ss.length sc, .slice ua us.length uc] 42))) := balloc HB1.out _
    generalize w1.alloc (.cells #[.int .u64 ep, .int .i64 ow, .int .u64 ic, .int .u64 re, .int .u64 fi, .int .u64 tr, .slice ia is.length icp, .slice sa ss.length sc, .slice ua us.length uc] 42) = w2 at HX2 HP2 HB2 ⊢
    clear q0 q1 q2 q3 q4 r0 r1 r2 r3 r4 d0 d1 d2 d3 d4 d5 d6 d7 d8
    obtain ⟨nb, hnb⟩ : ∃ nb, w1.heap.size = nb := ⟨_, rfl⟩
    rw [hnb] at HX2 ⊢
    have hnw : w.heap.size < nb := by omega
    clear hnb
    go_loopg [8, 9, 10] is.length (fun gg s8 s9 s10 wr => ∃ (i : Nat) (at_ : Int), i ≤ is.length ∧ is.length - i ≤ gg ∧ s10 = .int .i64 i ∧ s8 = .int .u64 at_ ∧ Aside (U64 at_ ∧ idsOkB LS (is.drop i) = true ∧ wr.heap[w.heap.size]? = some (.cells #[.int .u64 pv, .int .u64 pn, .slice (some ⟨b, off, none⟩) cs.length cc, .slice la ls.length lc, .slice pa ps.length pc] 27 (0, 0)) ∧ wr.heap[nb]? = some (.cells #[.int .u64 ep, .int .i64 ow, .int .u64 ic, .int .u64 re, .int .u64 fi, .int .u64 tr, .slice ia is.length icp, .slice sa ss.length sc, .slice ua us.length uc] 42 (0, 0)) ∧ ∃ out : List Spot, SpotsSoFar w wr out s9 ∧ out.length ≤ i * 8 ∧ out ++ spotsL LS sure at_ (is.drop i) = SB))
    case atStart => exact ⟨0, fi, Nat.zero_le _, by omega, rfl, rfl, HFI.out, HCH.out.ids, HP2.out, HX2.out, [], spots_start w HB2.out, by simp, HSP.out.symm⟩
    case round =>
      obtain ⟨i, at_, hi, hg, rfl, rfl, A⟩ := hrel
      obtain ⟨wo, rfl⟩ : ∃ wo : World, wo = wr := ⟨_, rfl⟩
      obtain ⟨hU, hids, hP, hX, out, hout, hlen, hrest⟩ := A.out
      by_cases hlt : i < is.length
      · have hbelow := hout.2.2
        obtain ⟨b3, o3, id, ha3, hy3, hb3, hat3, _⟩ := (HID.out.mono hbelow).get (j := i) hlt
        have x0 := at_u64 hat3
        dsimp only at ha3 hy3
        simp only [show eU64.k = 1 from rfl, Nat.mul_one] at x0
        cases ha3
        obtain ⟨l, hf, hcl, hids2⟩ := ids_drop hy3 hids
        have hrest2 := rest_cons (sure := sure) hy3 hf hrest
        rw [HPD.out] at hf
        obtain ⟨q, y, hq, hyd, hidx⟩ := idxL_of hf
        have hlOk := HLEDS.out l (by rw [HPD.out]; exact (findL_id hf).1)
        obtain ⟨b4, o4, y', ha4, hy4, hb4, hat4, hok4⟩ := (HLD.out.mono hbelow).get (j := q) (List.getElem?_eq_some_iff.1 hq).1
        dsimp only at ha4 hy4
        rw [hq] at hy4
        cases hy4
        cases ha4
        have hql := (List.getElem?_eq_some_iff.1 hq).1
        obtain ⟨d0, d1, d2, d3, d4, d5⟩ := at_ledger hat4
        simp only [show eLedger.k = 6 from rfl] at d0 d1 d2 d3 d4 d5
        obtain ⟨q0, q1, q2, q3, q4, -, -, -, -, -⟩ := cells5 hP
        obtain ⟨-, -, -, -, -, -, e6, -, -, -, -, -, -, -, -, -, -, -⟩ := cells9 hX
        have hzP := box_lt hP
        have hzX := box_lt hX
        have hcall := fun W (hW : Below w.heap.size w W) => HF.out id W hW
        rw [HPD.out, hidx] at hcall
        have HOUT : Aside (SpotsSoFar w wo out u9) := hout
        have HU : Hid (U64 at_) := hU
        have HLEN : Hid _ := hlen
        have HREST : Hid _ := hrest2
        have HCL : Hid _ := hcl
        have HLOK : Aside _ := hlOk
        have HID2 : Hid _ := hids2
        have HYU : Hid (U64 y.id) := hok4.1
        have HP : Aside _ := hP
        have HX : Aside _ := hX
        have HBO : Aside _ := hbelow
        have hYD : Hid (y.d = l) := hyd
        have hltz : (i : Int) < (is.length : Int) := by omega
        have hi0 : (0 : Int) ≤ (i : Int) := by omega
        have hq0 : (0 : Int) ≤ (q : Int) := by omega
        have hq1 : (q : Int) < (ls.length : Int) := by omega
        obtain ⟨li, lw, lA, ⟨fa, fc, fx⟩, lcl, lla⟩ := y
        dsimp only at d0 d1 d2 d3 d4 d5
        clear hU hids hP hX hout hlen hrest hids2 hrest2 hcl hlOk hat3 hat4 hok4 hf hidx hbelow hyd hq hy3
        go_wp2_with fail
        have hSW : ∀ w', Below wo.heap.size wo w' → w'.cell? ⟨w.heap.size, 0, none⟩ = some (.int .u64 pv) ∧ w'.cell? ⟨w.heap.size, 1, none⟩ = some (.int .u64 pn) ∧ w'.cell? ⟨w.heap.size, 2, none⟩ = some (.slice (some ⟨b, off, none⟩) cs.length cc) ∧ w'.cell? ⟨w.heap.size, 3, none⟩ = some (.slice (some ⟨b4, o4, none⟩) ls.length lc) ∧ w'.cell? ⟨w.heap.size, 4, none⟩ = some (.slice pa ps.length pc) ∧ w'.cell? ⟨nb, 6, none⟩ = some (.slice (some ⟨b3, o3, none⟩) is.length icp) ∧ w'.cell? ⟨b3, o3 + i, none⟩ = some (.int .u64 id) ∧
            w'.cell? ⟨b4, o4 + q * 6, none⟩ = some (.int .u64 li) ∧ w'.cell? ⟨b4, o4 + q * 6 + 1, none⟩ = some (.int .i64 lw) ∧ w'.cell? ⟨b4, o4 + q * 6 + 2, none⟩ = some (.int .i64 lA) ∧ w'.cell? ⟨b4, o4 + q * 6 + 3, none⟩ = some (.slice fa fx.length fc) ∧ w'.cell? ⟨b4, o4 + q * 6 + 4, none⟩ = some (.int .i64 lcl) ∧ w'.cell? ⟨b4, o4 + q * 6 + 5, none⟩ = some (.int .u64 lla) :=
          fun w' hW => ⟨(hW.cell (p := ⟨w.heap.size, 0, none⟩) hzP).trans q0, (hW.cell (p := ⟨w.heap.size, 1, none⟩) hzP).trans q1, (hW.cell (p := ⟨w.heap.size, 2, none⟩) hzP).trans q2, (hW.cell (p := ⟨w.heap.size, 3, none⟩) hzP).trans q3, (hW.cell (p := ⟨w.heap.size, 4, none⟩) hzP).trans q4, (hW.cell (p := ⟨nb, 6, none⟩) hzX).trans e6, (hW.cell (p := ⟨b3, o3 + i, none⟩) hb3).trans x0,
            (hW.cell (p := ⟨b4, o4 + q * 6, none⟩) hb4).trans d0, (hW.cell (p := ⟨b4, o4 + q * 6 + 1, none⟩) hb4).trans d1, (hW.cell (p := ⟨b4, o4 + q * 6 + 2, none⟩) hb4).trans d2, (hW.cell (p := ⟨b4, o4 + q * 6 + 3, none⟩) hb4).trans d3, (hW.cell (p := ⟨b4, o4 + q * 6 + 4, none⟩) hb4).trans d4, (hW.cell (p := ⟨b4, o4 + q * 6 + 5, none⟩) hb4).trans d5⟩
        have hS0 := hSW _ (Below.refl _ wo).drew
        have hSA := fun o => hSW _ (b1 wo o).drew
        have hSB := fun o => hSW _ (balloc (Below.refl _ wo).drew o)
        clear q0 q1 q2 q3 q4 e6 x0 d0 d1 d2 d3 d4 d5
        go_region_held3 (fun w' => w'.cell? ⟨w.heap.size, 0, none⟩ = some (.int .u64 pv) ∧ w'.cell? ⟨w.heap.size, 1, none⟩ = some (.int .u64 pn) ∧ w'.cell? ⟨w.heap.size, 2, none⟩ = some (.slice (some ⟨b, off, none⟩) cs.length cc) ∧ w'.cell? ⟨w.heap.size, 3, none⟩ = some (.slice (some ⟨b4, o4, none⟩) ls.length lc) ∧ w'.cell? ⟨w.heap.size, 4, none⟩ = some (.slice pa ps.length pc) ∧ w'.cell? ⟨nb, 6, none⟩ = some (.slice (some ⟨b3, o3, none⟩) is.length icp) ∧ w'.cell? ⟨b3, o3 + i, none⟩ = some (.int .u64 id) ∧
            w'.cell? ⟨b4, o4 + q * 6, none⟩ = some (.int .u64 li) ∧ w'.cell? ⟨b4, o4 + q * 6 + 1, none⟩ = some (.int .i64 lw) ∧ w'.cell? ⟨b4, o4 + q * 6 + 2, none⟩ = some (.int .i64 lA) ∧ w'.cell? ⟨b4, o4 + q * 6 + 3, none⟩ = some (.slice fa fx.length fc) ∧ w'.cell? ⟨b4, o4 + q * 6 + 4, none⟩ = some (.int .i64 lcl) ∧ w'.cell? ⟨b4, o4 + q * 6 + 5, none⟩ = some (.int .u64 lla))
          (first | (with_reducible exact hS3) | (with_reducible exact hS3a _) | (with_reducible exact hS0) | (with_reducible exact hSA _) | (with_reducible exact hSB _) | (refine hSW _ (Far.below (lo := wo.heap.size) (hi := wo.heap.size + 1) ?_ hB3 (Nat.le_refl _)); repeat (first | (with_reducible refine far_set ?_ ⟨by simp, by simp⟩) | (with_reducible exact far_refl _ _ _))))
          (first | (go_at_call 68; (with_reducible refine (hcall wo.drew ?_).mono ?_); exact bthen HBO.out (Below.refl _ _).drew; rintro x w3 ⟨rfl, hbb3⟩; have hB3 : Below wo.heap.size wo w3 := bthen (Below.refl _ _).drew hbb3; have hS3 := hSW _ hB3; have hS3a := fun o => hSW _ (balloc hB3 o))
                 | (go_at_call 68; (with_reducible refine (hcall (wo.alloc _).drew ?_).mono ?_); exact bthen HBO.out (b1 _ _).drew; rintro x w3 ⟨rfl, hbb3⟩; have hB3 : Below wo.heap.size wo w3 := bthen (b1 _ _).drew hbb3; have hS3 := hSW _ hB3; obtain ⟨y0, y1, y2, y3, y4, y5, z0, z1, z2, z3, z4, z5⟩ := cells6 ((hbb3.block wo.heap.size (by simp)).trans (heap_top wo _ _ rfl)); have hyz : wo.heap.size < w3.heap.size := (by have := hbb3.size; simp at this; omega)))
        · have HL : Aside _ := heap_top w3 (.cells #[.int .u64 li, .int .i64 lw, .int .i64 lA, .slice fa fx.length fc, .int .i64 lcl, .int .u64 lla] 68) _ rfl
          have HBW : Aside (Below wo.heap.size wo (w3.alloc (.cells #[.int .u64 li, .int .i64 lw, .int .i64 lA, .slice fa fx.length fc, .int .i64 lcl, .int .u64 lla] 68))) := balloc hB3 _
          clear hS0 hSA hSB hSW hS3 hS3a hbb3
          obtain ⟨r, hr⟩ : ∃ r, w3.heap.size = r := ⟨_, rfl⟩
          have hrn : wo.heap.size ≤ r := by have := hB3.size; omega
          clear hB3
          generalize w3.alloc (.cells #[.int .u64 li, .int .i64 lw, .int .i64 lA, .slice fa fx.length fc, .int .i64 lcl, .int .u64 lla] 68) = wd at HL HBW ⊢
          rw [hr] at HL ⊢
          clear hr
          have HP3 : Aside _ := box_mono HP.out HBW.out
          have HX3 : Aside _ := box_mono HX.out HBW.out
          have HO3 : Aside (SpotsSoFar w wd out u9) := HOUT.out.below HBW.out
          obtain ⟨l0, l1, l2, l3, l4, l5, -, -, -, -, -, -⟩ := cells6 HL.out
          have hl1 := HLOK.out.1
          have hl2 := HLOK.out.2
          have hli : l.id = li := by rw [← hYD.out]; rfl
          have hlc1 : l.closed = lcl := by rw [← hYD.out]; rfl
          have hla1 : l.last = lla := by rw [← hYD.out]; rfl
          rw [hlc1] at hl1
          rw [hlc1, hla1] at hl2
          obtain ⟨m, hm⟩ : ∃ m : Nat, (m : Int) = cntOf sure l.closed l.last := ⟨(cntOf sure l.closed l.last).toNat, by have h1 := HS.out.1; unfold cntOf; rw [hlc1, hla1]; split <;> omega⟩
          have hmN : (cntOf sure l.closed l.last).toNat = m := by omega
          have HMN : Hid _ := hmN
          have HLI : Hid _ := hli
          have HNEXT : Hid (is.drop (i + 1) = [] ∨ addU at_ m = addU at_ l.last) := by
            rcases HCL.out with h | h
            · exact .inl h
            · right; rw [hm]; unfold cntOf; rw [if_neg h]
          have hcases : (lcl = 0 ∧ 8 < sure ∧ (m : Int) = 8) ∨ (lcl = 0 ∧ ¬ 8 < sure ∧ (m : Int) = sure) ∨ (lcl ≠ 0 ∧ (m : Int) = lla) := by
            have h1 := HS.out.1
            rw [hlc1, hla1] at hm
            unfold cntOf at hm
            split at hm <;> omega
          have hm8 : m ≤ 8 := by have h1 := HS.out.1; omega
          clear hm hmN hli hlc1 hla1 hl1 hl2
          rcases hcases with ⟨z1, z2, hm⟩ | ⟨z1, z2, hm⟩ | ⟨z1, hm⟩
          rotate_left 2
          have zb : (lcl == 0) = false := by simpa using z1
          rotate_left 1
          have zb : (lcl == 0) = true := by simpa using z1
          have zs : decide (sure > 8) = true := decide_eq_true z2
          have zs2 : decide (8 < sure) = true := decide_eq_true z2
          rotate_left 1
          have zb : (lcl == 0) = true := by simpa using z1
          have zs : decide (sure > 8) = false := decide_eq_false z2
          have zs2 : decide (8 < sure) = false := decide_eq_false z2
          rotate_left 1
          all_goals
            clear z1
            go_wp2
            go_loopg [8, 9, 13] m (fun gg s8 s9 s13 wk => ∃ (kk : Nat) (A : Int), kk ≤ m ∧ m - kk ≤ gg ∧ s13 = .int .u64 ((kk : Int) + 1) ∧ s8 = .int .u64 A ∧ Aside (A = addU at_ kk ∧ wk.heap[w.heap.size]? = some (.cells #[.int .u64 pv, .int .u64 pn, .slice (some ⟨b, off, none⟩) cs.length cc, .slice (some ⟨b4, o4, none⟩) ls.length lc, .slice pa ps.length pc] 27 (0, 0)) ∧ wk.heap[nb]? = some (.cells #[.int .u64 ep, .int .i64 ow, .int .u64 ic, .int .u64 re, .int .u64 fi, .int .u64 tr, .slice (some ⟨b3, o3, none⟩) is.length icp, .slice sa ss.length sc, .slice ua us.length uc] 42 (0, 0)) ∧ wk.heap[r]? = some (.cells #[.int .u64 li, .int .i64 lw, .int .i64 lA, .slice fa fx.length fc, .int .i64 lcl, .int .u64 lla] 68 (0, 0)) ∧ SpotsSoFar w wk (out ++ (spotsAt sure (at_, l)).take kk) s9))
            case atStart => exact ⟨0, at_, Nat.zero_le _, by omega, rfl, rfl, (addU_0 HU.out).symm, HP3.out, HX3.out, HL.out, by simpa using HO3.out⟩
            case round =>
              obtain ⟨kk, A, hkk, hgk, rfl, rfl, B⟩ := hrel
              obtain ⟨wk, rfl⟩ : ∃ wk : World, wk = wr := ⟨_, rfl⟩
              obtain ⟨l0, -, -, -, -, -, -, -, -, -, -, -⟩ := cells6 B.out.2.2.2.1
              by_cases hk2 : kk < m
              · try have h1 : (kk : Int) + 1 ≤ 8 := by omega
                try have h2 : (kk : Int) + 1 ≤ sure := by omega
                try have h3 : (kk : Int) + 1 ≤ lla := by omega
                have hwa : IntKind.u64.wrap (A + 1) = addU at_ ((kk : Int) + 1) := by rw [wrap_addU, B.out.1]; exact addU_1 at_ kk
                have HTK := spotsAt_take (sure := sure) (e := at_) (l := l) (k := kk) (by rw [HMN.out]; exact hk2)
                have HTK : Hid _ := HTK
                have hlen2 : (out ++ (spotsAt sure (at_, l)).take kk).length = out.length + kk := by simp [spotsAt_len, HMN.out]; omega
                have HL2 : Hid _ := hlen2
                clear hlen2
                go_wp2_with (at_builtin; refine wpList_append_own _ rfl _ _ 30 rfl w.heap.size 33 i0 (.agg #[.int .u64 0, .int .u64 0, .int .u64 0]) 3 24 Tryz.underlying30 (by assumption) hz0 hz1 hz2 rfl (by decide) _ _ _ rfl (own_below B.out.2.2.2.2.1 (b1 _ _)) ⟨wk.heap.size, 0, none⟩ 1 1 [.int .u64 A, .int .u64 li, .int .u64 ((kk : Int) + 1)] rfl rfl ?_ ?_ ?_ ?_ ?_ ?_)
                · intro j u hj
                  match j, hj with
                  | 0, hj => cases hj; exact (cells3 (heap_top wk _ _ rfl)).1
                  | 1, hj => cases hj; exact (cells3 (heap_top wk _ _ rfl)).2.1
                  | 2, hj => cases hj; exact (cells3 (heap_top wk _ _ rfl)).2.2.1
                  | j + 3, hj => simp at hj
                · intro u hu; simp at hu; rcases hu with rfl | rfl | rfl <;> rfl
                · have h1 := HL2.out; have h2 := HLEN.out; unfold maxLen; omega
                · have h1 := HL2.out; have h2 := HLEN.out; omega
                · have h1 := B.out.2.2.2.2.2.2.size; simp; omega
                intro v' w5 hown hgrow hnil
                have hA64 : U64 A := by rw [B.out.1]; exact addU_u64 _ _
                have hst := spots_step (y := ⟨A, li, (kk : Int) + 1⟩) (B.out.2.2.2.2.below (b1 wk _)) ⟨hA64, HYU.out, by show U64 ((kk : Int) + 1); unfold U64; omega⟩ (by rw [List.length_append, List.length_take, List.flatMap_append, List.append_assoc]; exact hown) hgrow
                have hbP := grown_box B.out.2.2.2.2.1 hgrow B.out.2.1 (.inl (by decide))
                have hbX := grown_box B.out.2.2.2.2.1 hgrow B.out.2.2.1 (.inl (by decide))
                have hbL := grown_box B.out.2.2.2.2.1 hgrow B.out.2.2.2.1 (.inl (by decide))
                have HST : Aside (SpotsSoFar w w5 (out ++ (spotsAt sure (at_, l)).take (kk + 1)) v') := by
                  rw [HTK.out, ← List.append_assoc]
                  have e1 : addU (kk : Int) 1 = (kk : Int) + 1 := addU_small (by omega) (by omega)
                  rw [e1, HLI.out, ← B.out.1]
                  exact hst
                have HBP : Aside _ := hbP
                have HBX : Aside _ := hbX
                have HBL : Aside _ := hbL
                clear hst hown hgrow hnil hbP hbX hbL hA64
                go_wp2
                go_roundg (m - (kk + 1))
                case measure => omega
                case rel => exact ⟨kk + 1, _, by omega, by omega, by go_num, rfl, by simp, HBP.out, HBX.out, HBL.out, HST.out⟩
              · try have h1 : ¬ (kk : Int) + 1 ≤ 8 := by omega
                try have h2 : ¬ (kk : Int) + 1 ≤ sure := by omega
                try have h3 : ¬ (kk : Int) + 1 ≤ lla := by omega
                have hkm : kk = m := by omega
                have HKM : Hid _ := hkm
                clear hkm
                go_wp2
                go_roundg (is.length - (i + 1))
                case measure => omega
                case rel =>
                  have hfull : (spotsAt sure (at_, l)).take kk = spotsAt sure (at_, l) := List.take_of_length_le (by rw [spotsAt_len, HMN.out, HKM.out]; exact Nat.le_refl _)
                  refine ⟨i + 1, A, by omega, by omega, by go_num, rfl, by rw [B.out.1]; exact addU_u64 _ _, HID2.out, B.out.2.1, B.out.2.2.1, out ++ spotsAt sure (at_, l), by have h1 := B.out.2.2.2.2; rw [hfull] at h1; exact h1, ?_, ?_⟩
                  · have h2 := HLEN.out
                    rw [List.length_append, spotsAt_len, HMN.out]
                    omega
                  · have h3 := HREST.out
                    rcases HNEXT.out with h | h
                    · rw [h] at h3 ⊢
                      exact h3
                    · rw [B.out.1, HKM.out, h]
                      exact h3
        · have hz3 := hbb3.block wo.heap.size (by simp)
          have HL0 := cells_set (cells_set (cells_set (cells_set (cells_set (cells_set (hz3.trans (heap_top wo _ _ rfl)) 0 (.int .u64 li)) 1 (.int .i64 lw)) 2 (.int .i64 lA)) 3 (.slice fa fx.length fc)) 4 (.int .i64 lcl)) 5 (.int .u64 lla)
          have HL : Aside (((((((w3.setCell ⟨wo.heap.size, 0, none⟩ (.int .u64 li)).setCell ⟨wo.heap.size, 1, none⟩ (.int .i64 lw)).setCell ⟨wo.heap.size, 2, none⟩ (.int .i64 lA)).setCell ⟨wo.heap.size, 3, none⟩ (.slice fa fx.length fc)).setCell ⟨wo.heap.size, 4, none⟩ (.int .i64 lcl)).setCell ⟨wo.heap.size, 5, none⟩ (.int .u64 lla)).heap[wo.heap.size]? = some (.cells #[.int .u64 li, .int .i64 lw, .int .i64 lA, .slice fa fx.length fc, .int .i64 lcl, .int .u64 lla] 68 (0, 0))) := HL0
          have HBW : Aside (Below wo.heap.size wo ((((((w3.setCell ⟨wo.heap.size, 0, none⟩ (.int .u64 li)).setCell ⟨wo.heap.size, 1, none⟩ (.int .i64 lw)).setCell ⟨wo.heap.size, 2, none⟩ (.int .i64 lA)).setCell ⟨wo.heap.size, 3, none⟩ (.slice fa fx.length fc)).setCell ⟨wo.heap.size, 4, none⟩ (.int .i64 lcl)).setCell ⟨wo.heap.size, 5, none⟩ (.int .u64 lla))) :=
            Far.below (lo := wo.heap.size) (hi := wo.heap.size + 1) (by repeat (first | (with_reducible refine far_set ?_ ⟨by simp, by simp⟩) | (with_reducible exact far_refl _ _ _))) hB3 (Nat.le_refl _)
          clear hS0 hSA hSB hSW hS3 hbb3 hB3 y0 y1 y2 y3 y4 y5 z0 z1 z2 z3 z4 z5 hyz hz3 HL0
          obtain ⟨r, hr⟩ : ∃ r, wo.heap.size = r := ⟨_, rfl⟩
          have hrn : wo.heap.size ≤ r := by omega
          generalize (((((w3.setCell ⟨wo.heap.size, 0, none⟩ (.int .u64 li)).setCell ⟨wo.heap.size, 1, none⟩ (.int .i64 lw)).setCell ⟨wo.heap.size, 2, none⟩ (.int .i64 lA)).setCell ⟨wo.heap.size, 3, none⟩ (.slice fa fx.length fc)).setCell ⟨wo.heap.size, 4, none⟩ (.int .i64 lcl)).setCell ⟨wo.heap.size, 5, none⟩ (.int .u64 lla) = wd at HL HBW ⊢
          rw [hr] at HL ⊢
          clear hr
          have HP3 : Aside _ := box_mono HP.out HBW.out
          have HX3 : Aside _ := box_mono HX.out HBW.out
          have HO3 : Aside (SpotsSoFar w wd out u9) := HOUT.out.below HBW.out
          obtain ⟨l0, l1, l2, l3, l4, l5, -, -, -, -, -, -⟩ := cells6 HL.out
          have hl1 := HLOK.out.1
          have hl2 := HLOK.out.2
          have hli : l.id = li := by rw [← hYD.out]; rfl
          have hlc1 : l.closed = lcl := by rw [← hYD.out]; rfl
          have hla1 : l.last = lla := by rw [← hYD.out]; rfl
          rw [hlc1] at hl1
          rw [hlc1, hla1] at hl2
          obtain ⟨m, hm⟩ : ∃ m : Nat, (m : Int) = cntOf sure l.closed l.last := ⟨(cntOf sure l.closed l.last).toNat, by have h1 := HS.out.1; unfold cntOf; rw [hlc1, hla1]; split <;> omega⟩
          have hmN : (cntOf sure l.closed l.last).toNat = m := by omega
          have HMN : Hid _ := hmN
          have HLI : Hid _ := hli
          have HNEXT : Hid (is.drop (i + 1) = [] ∨ addU at_ m = addU at_ l.last) := by
            rcases HCL.out with h | h
            · exact .inl h
            · right; rw [hm]; unfold cntOf; rw [if_neg h]
          have hcases : (lcl = 0 ∧ 8 < sure ∧ (m : Int) = 8) ∨ (lcl = 0 ∧ ¬ 8 < sure ∧ (m : Int) = sure) ∨ (lcl ≠ 0 ∧ (m : Int) = lla) := by
            have h1 := HS.out.1
            rw [hlc1, hla1] at hm
            unfold cntOf at hm
            split at hm <;> omega
          have hm8 : m ≤ 8 := by have h1 := HS.out.1; omega
          clear hm hmN hli hlc1 hla1 hl1 hl2
          rcases hcases with ⟨z1, z2, hm⟩ | ⟨z1, z2, hm⟩ | ⟨z1, hm⟩
          rotate_left 2
          have zb : (lcl == 0) = false := by simpa using z1
          rotate_left 1
          have zb : (lcl == 0) = true := by simpa using z1
          have zs : decide (sure > 8) = true := decide_eq_true z2
          have zs2 : decide (8 < sure) = true := decide_eq_true z2
          rotate_left 1
          have zb : (lcl == 0) = true := by simpa using z1
          have zs : decide (sure > 8) = false := decide_eq_false z2
          have zs2 : decide (8 < sure) = false := decide_eq_false z2
          rotate_left 1
          all_goals
            clear z1
            go_wp2
            go_loopg [8, 9, 13] m (fun gg s8 s9 s13 wk => ∃ (kk : Nat) (A : Int), kk ≤ m ∧ m - kk ≤ gg ∧ s13 = .int .u64 ((kk : Int) + 1) ∧ s8 = .int .u64 A ∧ Aside (A = addU at_ kk ∧ wk.heap[w.heap.size]? = some (.cells #[.int .u64 pv, .int .u64 pn, .slice (some ⟨b, off, none⟩) cs.length cc, .slice (some ⟨b4, o4, none⟩) ls.length lc, .slice pa ps.length pc] 27 (0, 0)) ∧ wk.heap[nb]? = some (.cells #[.int .u64 ep, .int .i64 ow, .int .u64 ic, .int .u64 re, .int .u64 fi, .int .u64 tr, .slice (some ⟨b3, o3, none⟩) is.length icp, .slice sa ss.length sc, .slice ua us.length uc] 42 (0, 0)) ∧ wk.heap[r]? = some (.cells #[.int .u64 li, .int .i64 lw, .int .i64 lA, .slice fa fx.length fc, .int .i64 lcl, .int .u64 lla] 68 (0, 0)) ∧ SpotsSoFar w wk (out ++ (spotsAt sure (at_, l)).take kk) s9))
            case atStart => exact ⟨0, at_, Nat.zero_le _, by omega, rfl, rfl, (addU_0 HU.out).symm, HP3.out, HX3.out, HL.out, by simpa using HO3.out⟩
            case round =>
              obtain ⟨kk, A, hkk, hgk, rfl, rfl, B⟩ := hrel
              obtain ⟨wk, rfl⟩ : ∃ wk : World, wk = wr := ⟨_, rfl⟩
              obtain ⟨l0, -, -, -, -, -, -, -, -, -, -, -⟩ := cells6 B.out.2.2.2.1
              by_cases hk2 : kk < m
              · try have h1 : (kk : Int) + 1 ≤ 8 := by omega
                try have h2 : (kk : Int) + 1 ≤ sure := by omega
                try have h3 : (kk : Int) + 1 ≤ lla := by omega
                have hwa : IntKind.u64.wrap (A + 1) = addU at_ ((kk : Int) + 1) := by rw [wrap_addU, B.out.1]; exact addU_1 at_ kk
                have HTK := spotsAt_take (sure := sure) (e := at_) (l := l) (k := kk) (by rw [HMN.out]; exact hk2)
                have HTK : Hid _ := HTK
                have hlen2 : (out ++ (spotsAt sure (at_, l)).take kk).length = out.length + kk := by simp [spotsAt_len, HMN.out]; omega
                have HL2 : Hid _ := hlen2
                clear hlen2
                go_wp2_with (at_builtin; refine wpList_append_own _ rfl _ _ 30 rfl w.heap.size 33 i0 (.agg #[.int .u64 0, .int .u64 0, .int .u64 0]) 3 24 Tryz.underlying30 (by assumption) hz0 hz1 hz2 rfl (by decide) _ _ _ rfl (own_below B.out.2.2.2.2.1 (b1 _ _)) ⟨wk.heap.size, 0, none⟩ 1 1 [.int .u64 A, .int .u64 li, .int .u64 ((kk : Int) + 1)] rfl rfl ?_ ?_ ?_ ?_ ?_ ?_)
                · intro j u hj
                  match j, hj with
                  | 0, hj => cases hj; exact (cells3 (heap_top wk _ _ rfl)).1
                  | 1, hj => cases hj; exact (cells3 (heap_top wk _ _ rfl)).2.1
                  | 2, hj => cases hj; exact (cells3 (heap_top wk _ _ rfl)).2.2.1
                  | j + 3, hj => simp at hj
                · intro u hu; simp at hu; rcases hu with rfl | rfl | rfl <;> rfl
                · have h1 := HL2.out; have h2 := HLEN.out; unfold maxLen; omega
                · have h1 := HL2.out; have h2 := HLEN.out; omega
                · have h1 := B.out.2.2.2.2.2.2.size; simp; omega
                intro v' w5 hown hgrow hnil
                have hA64 : U64 A := by rw [B.out.1]; exact addU_u64 _ _
                have hst := spots_step (y := ⟨A, li, (kk : Int) + 1⟩) (B.out.2.2.2.2.below (b1 wk _)) ⟨hA64, HYU.out, by show U64 ((kk : Int) + 1); unfold U64; omega⟩ (by rw [List.length_append, List.length_take, List.flatMap_append, List.append_assoc]; exact hown) hgrow
                have hbP := grown_box B.out.2.2.2.2.1 hgrow B.out.2.1 (.inl (by decide))
                have hbX := grown_box B.out.2.2.2.2.1 hgrow B.out.2.2.1 (.inl (by decide))
                have hbL := grown_box B.out.2.2.2.2.1 hgrow B.out.2.2.2.1 (.inl (by decide))
                have HST : Aside (SpotsSoFar w w5 (out ++ (spotsAt sure (at_, l)).take (kk + 1)) v') := by
                  rw [HTK.out, ← List.append_assoc]
                  have e1 : addU (kk : Int) 1 = (kk : Int) + 1 := addU_small (by omega) (by omega)
                  rw [e1, HLI.out, ← B.out.1]
                  exact hst
                have HBP : Aside _ := hbP
                have HBX : Aside _ := hbX
                have HBL : Aside _ := hbL
                clear hst hown hgrow hnil hbP hbX hbL hA64
                go_wp2
                go_roundg (m - (kk + 1))
                case measure => omega
                case rel => exact ⟨kk + 1, _, by omega, by omega, by go_num, rfl, by simp, HBP.out, HBX.out, HBL.out, HST.out⟩
              · try have h1 : ¬ (kk : Int) + 1 ≤ 8 := by omega
                try have h2 : ¬ (kk : Int) + 1 ≤ sure := by omega
                try have h3 : ¬ (kk : Int) + 1 ≤ lla := by omega
                have hkm : kk = m := by omega
                have HKM : Hid _ := hkm
                clear hkm
                go_wp2
                go_roundg (is.length - (i + 1))
                case measure => omega
                case rel =>
                  have hfull : (spotsAt sure (at_, l)).take kk = spotsAt sure (at_, l) := List.take_of_length_le (by rw [spotsAt_len, HMN.out, HKM.out]; exact Nat.le_refl _)
                  refine ⟨i + 1, A, by omega, by omega, by go_num, rfl, by rw [B.out.1]; exact addU_u64 _ _, HID2.out, B.out.2.1, B.out.2.2.1, out ++ spotsAt sure (at_, l), by have h1 := B.out.2.2.2.2; rw [hfull] at h1; exact h1, ?_, ?_⟩
                  · have h2 := HLEN.out
                    rw [List.length_append, spotsAt_len, HMN.out]
                    omega
                  · have h3 := HREST.out
                    rcases HNEXT.out with h | h
                    · rw [h] at h3 ⊢
                      exact h3
                    · rw [B.out.1, HKM.out, h]
                      exact h3
      · have hltz : ¬ (i : Int) < (is.length : Int) := by omega
        obtain ⟨-, -, -, -, -, -, e6, -, -, -, -, -, -, -, -, -, -, -⟩ := cells9 hX
        have hnil : is.drop i = [] := List.drop_eq_nil_of_le (by omega)
        rw [hnil] at hrest
        have hE : out = SB := by simpa [spotsL, seqL] using hrest
        subst hE
        have HOUT : Aside (SpotsSoFar w wo out u9) := hout
        clear hrest hnil hout hP hX hids hlen hU
        go_wp2
        go_ret
        exact made_mk rfl HOUT.out.1 HOUT.out.2.1 HOUT.out.2.2
end Go.Proofs.YtdiamknibfamdaaGreat
