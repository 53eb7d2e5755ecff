/- chain.has, chain.Keep; the chain's plain words. -/
import Derived.Test.YtdiamknibfamdaaGreatMayP
import Derived.RangeFuncNested
import Derived.RangeFuncBound
import Derived.RangeFuncCalls
import Derived.RangeFuncLeaves
import Derived.Shelf.Abstract
import Derived.Shelf.RegionOpen
import Derived.WalkKit
import Derived.OwnWalkIn
import Derived.TacticsInMore
import Derived.LoopNIn
import Derived.LoopIn
import Derived.Test.YtdiamknibfamdaaGreatRng
namespace Go.Proofs.YtdiamknibfamdaaGreat
open Go.RowKit Go.Shelf

/-- May the plan be, and is there such a channel? -/
def chainHasB (p : Plan) (ch : Int) : Bool := hasB p.channels.length ch && mayB p
def keepB (p : Plan) : List Int := if mayB p then p.ledgers.map (·.id) else []

set_option maxHeartbeats 1000000 in
theorem has65 (p : PlanR) (ch : Int) (w : World) (hp : p.Ok w) (hb : PlanSmall p) : Calls Tryz.prog 65 #[p.v, .int .i64 ch] w fun e w' => e = .returned (.bool (chainHasB p.d ch)) ∧ Below w.heap.size w w' := by
  have hmay := fun W (hW : Below w.heap.size w W) => may16 p W (hp.mono hW) hb
  have e0 : chainHasB p.d ch = (fromB ch 1 p.channels.xs.length && mayB p.d) := by
    show (fromB ch 1 (p.d.channels.length : Nat) && _) = _
    simp [PlanR.d]
  generalize chainHasB p.d ch = r at e0 ⊢
  generalize mayB p.d = m at hmay e0
  have E0 : Hid _ := e0
  clear e0 hp hb
  obtain ⟨pv, pn, ⟨ca, cc, cs⟩, ⟨la, lc, ls⟩, ⟨pa, pc, ps⟩⟩ := p
  dsimp only at E0 hmay ⊢
  by_cases h1 : 1 ≤ ch <;> by_cases h2 : ch ≤ (cs.length : Int)
  all_goals
    go_enter Tryz.func65, Tryz.ntmps65
    go_wp2_with (go_at_call 16; refine (hmay _ (b1 _ _)).mono ?_; rintro e w' ⟨rfl, hb'⟩)
    go_ret
    refine ⟨ret_bool (by rw [E0.out]; first | (simp [fromB, *]; done) | (simp [fromB]; intros; omega)), ?_⟩
    first | exact bthen (b1 _ _) hb' | exact b1 _ _

set_option maxHeartbeats 2000000 in
set_option maxRecDepth 100000 in
theorem keep28 (p : PlanR) (w : World) (hp : p.Ok w) (hb : PlanSmall p) : Calls Tryz.prog 28 #[p.v] w (Made eU64 22 (keepB p.d) w) := by
  obtain ⟨i0, hi, hz0, hz1, hz2⟩ := info_parts info22
  have hmay := fun W (hW : Below w.heap.size w W) => may16 p W (hp.mono hW) hb
  have hs := hp.ledgers
  have hle := hs.le
  have hcap := hs.cap
  have hn := hb.ledgers
  have e0 : keepB p.d = if mayB p.d then p.ledgers.xs.map (·.id) else [] := by
    have h2 : p.d.ledgers.map (·.id) = p.ledgers.xs.map (·.id) := by
      show (p.ledgers.xs.map LedgerR.d).map _ = _
      rw [List.map_map]
      rfl
    unfold keepB
    rw [h2]
  rw [e0]
  clear hp hb e0
  generalize mayB p.d = m at hmay ⊢
  obtain ⟨pv, pn, ⟨ca, cc, cs⟩, ⟨la, lc, ls⟩, ⟨pa, pc, ps⟩⟩ := p
  dsimp only at hs hle hcap hn hmay ⊢
  cases m with
  | false =>
    go_enter Tryz.func28, Tryz.ntmps28
    go_wp2_with (go_at_call 16; refine (hmay _ (b1 _ _)).mono ?_; rintro e w' ⟨rfl, hb'⟩)
    go_ret
    exact made_mk rfl (show _ from ⟨by simp, .inl ⟨rfl, rfl⟩⟩) (fun x h => by cases h) (bthen (b1 _ _) hb')
  | true =>
    go_enter Tryz.func28, Tryz.ntmps28
    go_wp2_with fail
    refine (hmay _ (b1 _ _)).mono ?_
    rintro e w1 ⟨rfl, hb'⟩
    have hB1 := bthen (b1 w _) hb'
    have hP1 := box_mono (heap_top w _ _ rfl) hb'
    obtain ⟨c0, c1, c2, c3, c4, f0, f1, f2, f3, f4⟩ := cells5 hP1
    have HB1 : Aside _ := hB1
    clear hb' hP1 hB1 hmay
    dsimp only
    go_wp2_with fail
    go_loopg [3, 12] ls.length (fun gg s3 s9 wr => ∃ kk : Nat, kk ≤ ls.length ∧ ls.length - kk ≤ gg ∧ s9 = .int .i64 kk ∧ Aside (NumsSoFar w wr ((ls.take kk).map (·.id)) s3))
    case atStart => exact ⟨0, Nat.zero_le _, by omega, rfl, nums_start w HB1.out⟩
    case round =>
      obtain ⟨kk, hkk, hg, rfl, S⟩ := hrel
      by_cases hlt : kk < ls.length
      · obtain ⟨b, off, y, ha, hy, hblk, hat, hok⟩ := (hs.mono S.out.2.2).get (j := kk) hlt
        have hc := at_ledger hat
        dsimp only at ha hy
        simp only [show eLedger.k = 6 from rfl] at hc
        obtain ⟨c0, c1, c2, c3, c4, c5⟩ := hc
        have hU : U64 y.id := hok.1
        have htk : (ls.take (kk + 1)).map (·.id) = (ls.take kk).map (·.id) ++ [y.id] := by rw [List.take_add_one, hy]; simp
        have HTK : Hid _ := htk
        have HU : Hid _ := hU
        obtain ⟨yi, yw, ya, ⟨fa, fc, fx⟩, yc, yl⟩ := y
        clear hat hok hs htk hU hy
        subst ha
        have hltz : (kk : Int) < (ls.length : Int) := by omega
        have hlen : ((ls.take kk).map (·.id)).length = kk := by simp; omega
        have HLEN : Hid _ := hlen
        clear hlen
        go_wp2_with (at_builtin; refine wpList_append_own _ rfl _ _ 38 rfl w.heap.size 22 i0 (.int .u64 0) 1 8 Tryz.underlying38 hi hz0 hz1 hz2 rfl (by decide) _ _ _ rfl (own_below S.out.1 (balloc (b1 _ _) _)) ⟨wr.heap.size + 1, 0, none⟩ 1 1 [.int .u64 yi] rfl rfl ?qc2 ?qc3 ?qc4 ?qc5 ?qc6 ?_)
        case qc3 => rfl
        case qc4 => unfold maxLen; omega
        case qc5 => omega
        case qc6 => have h1 := S.out.2.2.size; simp; omega
        intro v' w3 hown3 hgrow hnil
        have hst := nums_step (ys := [yi]) (S.out.below (balloc (b1 _ _) _)) (fun x hx => by simp at hx; subst hx; exact HU.out) (by rw [HLEN.out, List.map_take]; exact hown3) hgrow
        have HST : Aside _ := hst
        clear hst hown3 hgrow hnil
        go_wp2
        go_roundg (ls.length - (kk + 1))
        case measure => omega
        case rel => exact ⟨kk + 1, by omega, by omega, by go_num, by rw [HTK.out]; exact HST.out⟩
      · have hltz : ¬ (kk : Int) < (ls.length : Int) := by omega
        clear hs
        go_wp2
        go_ret
        rw [List.take_of_length_le (by omega)] at S
        exact made_mk rfl S.out.1 S.out.2.1 S.out.2.2
end Go.Proofs.YtdiamknibfamdaaGreat
/- chain.ledgers: an iterator over a channel's ledgers. -/
namespace Go.Proofs.YtdiamknibfamdaaGreat
open Go.RowKit Go.Shelf
attribute [local go_sem] Oper.semAt_some

/-- What a round keeps: all below n0, and each block of cells of some types. -/
structure Kept (T : TypeId → Prop) (n0 : Nat) (W W' : World) : Prop where
  below : Below n0 W W'
  types : ∀ (k : Nat) (c : Array Value) (t : TypeId) (fr : Nat × Nat), W.heap[k]? = some (Obj.cells c t fr) → T t → W'.heap[k]? = some (Obj.cells c t fr)
theorem Kept.refl (T : TypeId → Prop) (n0 : Nat) (W : World) : Kept T n0 W W := ⟨Below.refl _ _, fun _ _ _ _ h _ => h⟩
theorem Kept.trans {T : TypeId → Prop} {n0 : Nat} {A B C : World} (h : Kept T n0 A B) (k : Kept T n0 B C) : Kept T n0 A C := ⟨h.below.trans k.below, fun i c t fr hi ht => k.types i c t fr (h.types i c t fr hi ht) ht⟩
/-- All that was there lies as it lay. -/
theorem Kept.of_below {T : TypeId → Prop} {n0 : Nat} {A B : World} (h : Below A.heap.size A B) (hn : n0 ≤ A.heap.size) : Kept T n0 A B := ⟨h.mono hn, fun _ _ _ _ hk _ => box_mono hk h⟩
theorem Kept.putObj {T : TypeId → Prop} {n0 : Nat} {W : World} {l : Nat} {o : Obj} (o' : Obj) (hl : n0 ≤ l) (ho : W.heap[l]? = some o) (hc : o.isCells = false) : Kept T n0 W (W.putObj l o') :=
  ⟨⟨rfl, rfl, rfl, by simp, fun k hk => World.putObj_heap_other (by omega)⟩, fun k c t fr hk _ => (World.putObj_heap_other (fun e => by subst e; rw [ho] at hk; cases hk; cases hc)).trans hk⟩
theorem Kept.less {T T' : TypeId → Prop} {n0 : Nat} {A B : World} (h : Kept T n0 A B) (hT : ∀ t, T' t → T t) : Kept T' n0 A B := ⟨h.below, fun k c t fr hk ht => h.types k c t fr hk (hT t ht)⟩
/-- A row is written anew or elsewhere. -/
theorem Kept.grown {T : TypeId → Prop} {n0 : Nat} {A B : World} {v : Value} (h : A.grownBy B v.ownBlock) (hn : n0 ≤ A.heap.size) (hr : ∀ k, v.ownBlock = some k → n0 ≤ k ∧ ∀ (c : Array Value) (t : TypeId) (fr : Nat × Nat), A.heap[k]? = some (Obj.cells c t fr) → ¬ T t) : Kept T n0 A B :=
  ⟨⟨h.os, h.tape, h.output, h.size, fun k hk => h.block k (Nat.lt_of_lt_of_le hk hn) (fun e => by have := (hr k e.symm).1; omega)⟩,
   fun k c t fr hk ht => (h.block k (Array.getElem?_eq_some_iff.1 hk).1 (fun e => (hr k e.symm).2 c t fr hk ht)).trans hk⟩

/-- The ledgers of Ids, each with the offset of its first entry. -/
def seqL (ls : List Ledger) : Int → List Int → List (Int × Ledger)
  | _, [] => []
  | e, id :: t => (e, (findL ls id).getD ⟨0, 0, 0, [], 0, 0⟩) :: seqL ls (addU e (lastOf ls id)) t
theorem seqL_length (ls : List Ledger) : ∀ (e : Int) (ids : List Int), (seqL ls e ids).length = ids.length
  | _, [] => rfl
  | e, id :: t => by simp [seqL, seqL_length ls _ t]

/-- A ledger that comes, with its offset. -/
abbrev LX (LS : List Ledger) := { x : Int × LedgerR // (U64 x.1 ∧ U64 x.2.id ∧ I64 x.2.closed ∧ U64 x.2.last) ∧ ∃ id, x.2.d = (findL LS id).getD ⟨0, 0, 0, [], 0, 0⟩ }
def LX.d {LS : List Ledger} (x : LX LS) : Int × Ledger := (x.1.1, x.1.2.d)
def LX.encs {LS : List Ledger} (x : LX LS) : Array Value := #[.int .u64 x.1.1, x.1.2.v]

theorem seq_step {ls : List Ledger} {e id : Int} {t : List Int} {s : List (Int × Ledger)} (pre : List (LX ls)) (x : LX ls) (hx : x.1.1 = e) (hd : x.1.2.d = (findL ls id).getD ⟨0, 0, 0, [], 0, 0⟩)
    (h : pre.map LX.d ++ seqL ls e (id :: t) = s) : (pre ++ [x]).map LX.d ++ seqL ls (addU e x.1.2.last) t = s := by
  have hl := found_last hd
  rw [← h, List.map_append, List.append_assoc, hl]
  show _ ++ ((x.1.1, x.1.2.d) :: _) = _ ++ ((e, _) :: _)
  rw [hx, hd]
  rfl

set_option maxHeartbeats 4000000 in
set_option maxRecDepth 100000 in
theorem ledgers112 (T : TypeId → Prop) (h27 : T 27) (h68 : T 68) (n : Nat) (p : PlanR) (k B1 B2 : Nat) (c : ChannelR) (w w0 : World) (hp : p.Ok w) (hb : PlanSmall p) (hkl : p.channels.xs[k]? = some c)
    (hw : Below w.heap.size w w0) (hB1 : w0.heap[B1]? = some (.cells #[.int .u64 p.version, .int .u64 p.next, .slice p.channels.a p.channels.xs.length p.channels.c, .slice p.ledgers.a p.ledgers.xs.length p.ledgers.c, .slice p.past.a p.past.xs.length p.past.c] 27 (0, 0)))
    (hB2 : w0.heap[B2]? = some (.cells #[.int .i64 ((k : Int) + 1)] 3 (0, 0))) :
    SeqStopsK Fence.wide n Tryz.prog 112 #[.pointer (some ⟨B1, 0, none⟩), .pointer (some ⟨B2, 0, none⟩)] (LX.encs (LS := p.d.ledgers)) (Kept T w.heap.size)
      (fun xs => xs.map LX.d = seqL p.d.ledgers c.first c.ledgers.xs) (fun pre => pre.map LX.d <+: seqL p.d.ledgers c.first c.ledgers.xs) c.ledgers.xs.length w0 := by
  have hlt : k < p.channels.xs.length := (List.getElem?_eq_some_iff.1 hkl).1
  have hcap := hp.channels.cap
  have hle := hp.channels.le
  obtain ⟨b, off, c', ha, hy, hbk, hat, hok⟩ := hp.channels.get (j := k) hlt
  rw [hkl] at hy
  cases hy
  have hk0 : (0 : Int) ≤ (k : Int) + 1 - 1 := by omega
  have hk2 : (k : Int) + 1 - 1 < (p.channels.xs.length : Int) := by omega
  have hk3 : ((k : Int) + 1 - 1).toNat = k := by omega
  have hfind := fun W id (hW : Below w.heap.size w W) => find42 p id W (hp.mono hW) hb
  have hcell := at_channel hat
  simp only [show eChannel.k = 9 from rfl] at hcell
  have hlok := hok.ledgers
  have hfi := hok.first
  clear hat hok hb hp hkl
  generalize p.d.ledgers = LS at hfind ⊢
  intro l J Jx W hW hJ hJx hY h0
  obtain ⟨ep, ow, ic, re, fi, tr, ⟨ia, icp, is⟩, ⟨sa, sc, ss⟩, ⟨ua, uc, us⟩⟩ := c
  obtain ⟨pv, pn, ⟨ca, cc, cs⟩, ⟨la, lc, ls⟩, ⟨pa, pc, ps⟩⟩ := p
  dsimp only at *
  subst ha
  have hP := (box_mono hB1 hW)
  have hC := (box_mono hB2 hW)
  have hBW := hw.trans (hW.mono hw.size)
  obtain ⟨q0, q1, q2, q3, q4, r0, r1, r2, r3, r4⟩ := cells5 hP
  obtain ⟨z0, z1⟩ := cells1 hC
  obtain ⟨m0, m1, m2, m3, m4, m5, m6, m7, m8⟩ := hcell
  have n4 := (hBW.cell (p := ⟨b, off + k * 9 + 4, none⟩) hbk).trans m4
  have n6 := (hBW.cell (p := ⟨b, off + k * 9 + 6, none⟩) hbk).trans m6
  refine callsIn_of_wp Tryz.func112 rfl trivial ?_ rfl
  simp only [Tryz.ntmps112, List.size_toArray, List.length_cons, List.length_nil, Nat.reduceAdd, Nat.reduceSub, Array.replicate_succ, Array.replicate_zero, List.push_toArray, List.append_toArray, List.nil_append, List.cons_append]
  have HLOK : Aside _ := hlok
  have HBW : Aside _ := hBW
  have HP : Aside _ := hP
  have HC : Aside _ := hC
  have HJ : Aside _ := hJ
  have HY : Aside _ := hY
  clear hlok hBW hP hC hJ hY hJx m0 m1 m2 m3 m4 m5 m6 m7 m8 hB1 hB2 hw hW
  gi_wp2
  gi_loopw [4, 24] (fun s4 s24 wr => ∃ (j : Nat) (pre : List (LX LS)) (e : Int), j ≤ is.length ∧ s4 = .int .u64 e ∧ s24 = .int .i64 j ∧ Aside (J pre wr ∧ pre.length = j ∧ pre.map LX.d ++ seqL LS e (is.drop j) = seqL LS fi is ∧ U64 e ∧ Kept T w.heap.size W wr)) (fun _ s24 _ => is.length - (intOf s24).toNat)
  case atStart => exact ⟨0, [], fi, Nat.zero_le _, rfl, rfl, h0, rfl, by simp, hfi, Kept.refl _ _ _⟩
  case round =>
    obtain ⟨j, pre, e, hj, rfl, rfl, A⟩ := hrel
    obtain ⟨hJp, hpl, hsq, hUe, hK⟩ := A.out
    have hPr := hK.types _ _ _ _ HP.out h27
    have hBr := HBW.out.trans hK.below
    obtain ⟨q0, q1, q2, q3, q4, r0, r1, r2, r3, r4⟩ := cells5 hPr
    have hlt1 := box_lt hPr
    have hcp := HLOK.out.cap
    have hlp := HLOK.out.le
    dsimp only at hcp hlp
    have HK : Aside _ := hK
    have HBr : Aside _ := hBr
    have HJp : Aside _ := hJp
    have HSQ : Hid _ := hsq
    have HUE : Hid _ := hUe
    clear hK hBr hJp hsq hUe hPr A
    by_cases hlt : j < is.length
    · obtain ⟨b', off', id, ha', hy', hb', hat', _⟩ := (HLOK.out.mono HBr.out).get (j := j) hlt
      have hc' := at_u64 hat'
      dsimp only at ha' hy'
      simp only [show eU64.k = 1 from rfl, Nat.mul_one] at hc'
      subst ha'
      have hdr : is.drop j = id :: is.drop (j + 1) := by
        rw [List.drop_eq_getElem_cons hlt]
        congr 1
        exact (List.getElem?_eq_some_iff.1 hy').2
      have HDR : Hid _ := hdr
      clear hdr hat' hy'
      have hltz : (j : Int) < (is.length : Int) := by omega
      gi_wp2_with fail
      refine ⟨trivial, fun h => (by cases h), (callsIn_wide.2 (hfind wr id HBr.out)).mono ?_⟩
      rintro x w3 ⟨⟨id3, wd3, ac3, ⟨fa, fc, fx⟩, cl3, la3⟩, rfl, hd3, ho3, _, hb3⟩
      have hla := found_last hd3
      dsimp only at hla
      have hx : (U64 (e, (⟨id3, wd3, ac3, ⟨fa, fc, fx⟩, cl3, la3⟩ : LedgerR)).1 ∧ U64 id3 ∧ I64 cl3 ∧ U64 la3) ∧ ∃ id, LedgerR.d ⟨id3, wd3, ac3, ⟨fa, fc, fx⟩, cl3, la3⟩ = (findL LS id).getD ⟨0, 0, 0, [], 0, 0⟩ := ⟨⟨HUE.out, ho3.1, ho3.2.2.2.2.1, ho3.2.2.2.2.2⟩, id, hd3⟩
      have hb4 := balloc hb3 (.cells #[.int .u64 id3, .int .i64 wd3, .int .i64 ac3, .slice fa fx.length fc, .int .i64 cl3, .int .u64 la3] 68 (0, 0))
      have hJ4 : J pre (w3.alloc (.cells #[.int .u64 id3, .int .i64 wd3, .int .i64 ac3, .slice fa fx.length fc, .int .i64 cl3, .int .u64 la3] 68 (0, 0))) := HJ.out _ _ _ none HJp.out (grown_of_below hb4 _) (fun r h => by cases h)
      have hm : (pre ++ [(⟨(e, ⟨id3, wd3, ac3, ⟨fa, fc, fx⟩, cl3, la3⟩), hx⟩  : LX LS)]).map LX.d ++ seqL LS (addU e la3) (is.drop (j + 1)) = seqL LS fi is := by
        have h9 := HSQ.out
        rw [HDR.out] at h9
        exact seq_step pre _ rfl hd3 h9
      have HM : Hid _ := hm
      have hK4 := HK.out.trans (Kept.of_below hb4 HBr.out.size)
      have HK4 : Aside _ := hK4
      obtain ⟨fn, tmps, assign, body, hy, hR⟩ := HY.out pre ⟨(e, ⟨id3, wd3, ac3, ⟨fa, fc, fx⟩, cl3, la3⟩), hx⟩ _ hJ4 (by omega)
      dsimp only [LX.encs] at hy
      have HLA : Hid _ := hla
      clear hd3 ho3 hb3 hla hb4 hJ4 hm hK4 HK HBr HJp hfind
      dsimp only
      gi_wp2_with fail
      refine ⟨fun h => (by cases h), hR.mono ?_⟩
      rintro x W5 (⟨rfl, hJ5, hk5⟩ | ⟨rfl, hJx5⟩)
      · have hbox := hk5.types _ _ _ _ (heap_top w3 _ _ rfl) h68
        obtain ⟨d0, d1, d2, d3, d4, d5, g0, g1, g2, g3, g4, g5⟩ := cells6 hbox
        have hz5 := box_lt hbox
        have HJ5 : Aside _ := hJ5
        have HK5 : Aside _ := HK4.out.trans hk5
        clear hbox hJ5 hk5 HK4 hR hy
        dsimp only
        gi_wp2
        go_roundw
        case rel => exact ⟨j + 1, _, addU e la3, by omega, by rw [wrap_addU], by go_num, HJ5.out, by simp [hpl], HM.out, addU_u64 _ _, HK5.out⟩
        case measure => simp [intOf]; omega
      · dsimp only
        gi_wp2
        refine bodyPost_ret (results_none rfl _ _ _) rfl ?_
        exact ⟨⟨_, rfl⟩, .inr ⟨_, ⟨_, HM.out⟩, hJx5⟩⟩
    · obtain rfl : j = is.length := by omega
      gi_wp2
      go_end0
      refine ⟨⟨_, rfl⟩, .inl ⟨pre, ?_, HJp.out⟩⟩
      have := HSQ.out
      rw [List.drop_length] at this
      simpa [seqL] using this
end Go.Proofs.YtdiamknibfamdaaGreat
