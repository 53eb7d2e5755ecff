/- Whether a plan may be. -/
import Derived.Test.YtdiamknibfamdaaGreatChan
import Derived.Test.YtdiamknibfamdaaGreatSortE
import Derived.Test.YtdiamknibfamdaaGreatEqual
namespace Go.Proofs.YtdiamknibfamdaaGreat
open Go.RowKit Go.Shelf

/-- A row of numbers so far put together. -/
def NumsSoFar (w wr : World) (xs : List Int) (v : Value) : Prop :=
  wr.ownsRow w.heap.size 22 1 v xs.length (xs.flatMap eU64.enc) ∧ (∀ x ∈ xs, U64 x) ∧ Below w.heap.size w wr
theorem nums_start (w : World) {wr : World} (hb : Below w.heap.size w wr) : NumsSoFar w wr [] (.slice none 0 0) := ⟨⟨by simp, .inl ⟨rfl, rfl⟩⟩, (fun _ h => by cases h), hb⟩
theorem NumsSoFar.below {w wr W : World} {xs : List Int} {v : Value} (h : NumsSoFar w wr xs v) (hb : Below wr.heap.size wr W) : NumsSoFar w W xs v := ⟨own_below h.1 hb, h.2.1, bthen h.2.2 hb⟩
theorem nums_step {w wr w3 : World} {xs ys : List Int} {v v' : Value} (h : NumsSoFar w wr xs v) (hy : ∀ y ∈ ys, U64 y)
    (hown3 : w3.ownsRow w.heap.size 22 1 v' (xs.length + ys.length) (xs.flatMap eU64.enc ++ ys.flatMap eU64.enc)) (hg : wr.grownBy w3 v.ownBlock) : NumsSoFar w w3 (xs ++ ys) v' :=
  ⟨by simpa using hown3, fun x hx => (List.mem_append.1 hx).elim (h.2.1 x) (hy x), h.2.2.grown hg h.2.2.size (fun _ hk => (own_lt h.1 hk).1)⟩
theorem nums_done {w wr : World} {xs : List Int} {v : Value} (h : NumsSoFar w wr xs v) : ∃ a c, v = .slice a xs.length c ∧ SlOk eU64 wr ⟨a, c, xs⟩ := by
  obtain ⟨a, c, hv, hs⟩ := own_ok (E := eU64) h.1 h.2.1
  exact ⟨a, c, hv, hs⟩

theorem heap2_1' (w : World) (A B : Obj) : ((w.alloc A).alloc B).heap[w.heap.size + 1]? = some B := heap2_1 w A B

theorem run_append_none {P : Program} (w : World) (t ty e : TypeId) (i : TypeInfo) (ht : P.underlying t = some (.slice e)) (hi : P.info? e = some i) (a : Option Addr) (n c : Nat) (hn : n ≤ c) :
    (Builtin.append_ #[t, t] ty #[.slice a n c, .slice none 0 0]).run P w = .ok (.slice a n c) w := by
  cases a <;> simp [Builtin.append_, run_underlying ht, sizeOf, typeInfo, hi, Builtin.lenOf, Builtin.firstCells, loadCells, storeCells, hn]
/-- A row of elements, whole, put behind a row of one's own: the source may be nil. -/
theorem wpList_append_all {α : Type} (E : El α) {P : Program} (w : World) {ops : Array Oper} {rest : List Oper} {o : Oper} {a : Act} {Q : Exit → Act → World → Prop} (hgd : o.guard = none) (s x : Operand) (t : TypeId)
    (ho : o.op = .call { callee := .builtin .append, args := #[s, x], argTypes := #[t, t] })
    (base : Nat) (e : TypeId) (i : TypeInfo) (z : Value) (bytes : Nat) (ht : P.underlying t = some (.slice e)) (hi : P.info? e = some i) (hz : i.zero = some z)
    (hsize : i.size = E.k) (hby : i.bytes = bytes) (hzs : z.cells.size = E.k) (hsz : 0 < E.k)
    (v : Value) (n : Nat) (xs : List Value) (hs : a.eval s = v) (hown : w.ownsRow base e E.k v n xs)
    (r : Sl α) (hr : SlOk E w r) (hx : a.eval x = .slice r.a r.xs.length r.c)
    (h63 : n + r.xs.length ≤ maxLen) (hbytes : (n + r.xs.length) * bytes ≤ 140737488355328) (hbase : base ≤ w.heap.size)
    (h : ∀ v' w', w'.ownsRow base e E.k v' (n + r.xs.length) (xs ++ r.xs.flatMap E.enc) → w.grownBy w' v.ownBlock → wpList P ops Q rest (a.put o.dst v') w') : wpList P ops Q (o :: rest) a w := by
  obtain ⟨ra, rc, ys⟩ := r
  dsimp only at *
  cases ra with
  | none =>
    obtain ⟨h1, h2⟩ := hr.nil rfl
    dsimp only at h1 h2
    subst h1 h2
    have hform : ∃ b k c, v = .slice b k c ∧ k ≤ c := by
      rcases hown.2 with ⟨rfl, rfl⟩ | ⟨g, cap, cur, rfl, _, _, hnc, _⟩
      · exact ⟨_, _, _, rfl, Nat.le_refl _⟩
      · exact ⟨_, _, _, rfl, hnc⟩
    obtain ⟨b, k, c, rfl, hk⟩ := hform
    refine wpList_plain hgd fun _ hK => ?_
    unfold Oper.wp execOp
    have hrun := run_append_none (P := P) w t o.type e i ht hi b k c hk
    simp only [List.length_nil] at hx
    simp only [ho, resolve, invoke, builtin, Sem.run_bind, Sem.run_pure, Result.andThen_ok, List.map_toArray, List.map_cons, List.map_nil, hs, hx, hrun]
    exact hK _ _ (h _ _ (by simpa using hown) ⟨rfl, rfl, rfl, Nat.le_refl _, fun _ _ _ => rfl⟩)
  | some ad =>
    refine wpList_append_own w hgd s x t ho base e i z E.k bytes ht hi hz hsize hby hzs hsz v n xs hs hown ad ys.length rc (ys.flatMap E.enc) hx (flat_len E ys) ?_ (flat_one E ys) h63 hbytes hbase fun v' w' h1 h2 _ => h v' w' h1 h2
    intro j u hj
    obtain ⟨q, k, y, rfl, hq, hk⟩ := flat_get E ys j u hj
    obtain ⟨b, off, ha, _, hat⟩ := hr.at_ (fun h0 => by dsimp only at h0; rw [h0] at hq; simp at hq)
    dsimp only at ha
    cases ha
    have := hat q y hq k u hk
    rw [Addr.add_lit]
    rw [← this]
    congr 2
    omega

set_option maxHeartbeats 2000000 in
set_option maxRecDepth 100000 in
theorem ids57 (p : PlanR) (w : World) (hp : p.Ok w) (hb : PlanSmall p) : Calls Tryz.prog 57 #[p.v] w (Made eU64 22 (p.ledgers.xs.map (·.id)) w) := by
  obtain ⟨i0, hi, hz0, hz1, hz2⟩ := info_parts info22
  have hs := hp.ledgers
  have hle := hs.le
  have hcap := hs.cap
  have hn := hb.ledgers
  clear hp hb
  obtain ⟨pv, pn, ⟨ca, cc, cs⟩, ⟨la, lc, ls⟩, ⟨pa, pc, ps⟩⟩ := p
  dsimp only at hs hle hcap hn ⊢
  go_enter Tryz.func57, Tryz.ntmps57
  go_wp2
  go_loopg [3, 9] ls.length (fun gg s3 s9 wr => ∃ kk : Nat, kk ≤ ls.length ∧ ls.length - kk ≤ gg ∧ s9 = .int .i64 kk ∧ Aside (NumsSoFar w wr ((ls.take kk).map (·.id)) s3))
  case atStart => exact ⟨0, Nat.zero_le _, by omega, rfl, nums_start w (b1 _ _)⟩
  case round =>
    obtain ⟨kk, hkk, hg, rfl, S⟩ := hrel
    by_cases hlt : kk < ls.length
    · obtain ⟨b, off, y, ha, hy, hblk, hat, hok⟩ := (hs.mono S.out.2.2).get (j := kk) hlt
      have hc := at_ledger hat
      dsimp only at ha hy
      simp only [show eLedger.k = 6 from rfl] at hc
      obtain ⟨c0, c1, c2, c3, c4, c5⟩ := hc
      have hU : U64 y.id := hok.1
      have htk : (ls.take (kk + 1)).map (·.id) = (ls.take kk).map (·.id) ++ [y.id] := by rw [List.take_add_one, hy]; simp
      have HTK : Hid _ := htk
      have HU : Hid _ := hU
      obtain ⟨yi, yw, ya, ⟨fa, fc, fx⟩, yc, yl⟩ := y
      clear hat hok hs htk hU hy
      subst ha
      have hltz : (kk : Int) < (ls.length : Int) := by omega
      have hlen : ((ls.take kk).map (·.id)).length = kk := by simp; omega
      have HLEN : Hid _ := hlen
      clear hlen
      go_wp2_with (at_builtin; refine wpList_append_own _ rfl _ _ 38 rfl w.heap.size 22 i0 (.int .u64 0) 1 8 Tryz.underlying38 hi hz0 hz1 hz2 rfl (by decide) _ _ _ rfl (own_below S.out.1 (balloc (b1 _ _) _)) ⟨wr.heap.size + 1, 0, none⟩ 1 1 [.int .u64 yi] rfl rfl ?qc2 ?qc3 ?qc4 ?qc5 ?qc6 ?_)
      case qc3 => rfl
      case qc4 => unfold maxLen; omega
      case qc5 => omega
      case qc6 => have h1 := S.out.2.2.size; simp; omega
      intro v' w3 hown3 hgrow hnil
      have hst := nums_step (ys := [yi]) (S.out.below (balloc (b1 _ _) _)) (fun x hx => by simp at hx; subst hx; exact HU.out) (by rw [HLEN.out, List.map_take]; exact hown3) hgrow
      have HST : Aside _ := hst
      clear hst hown3 hgrow hnil
      go_wp2
      go_roundg (ls.length - (kk + 1))
      case measure => omega
      case rel => exact ⟨kk + 1, by omega, by omega, by go_num, by rw [HTK.out]; exact HST.out⟩
    · have hltz : ¬ (kk : Int) < (ls.length : Int) := by omega
      clear hs
      go_wp2
      go_ret
      rw [List.take_of_length_le (by omega)] at S
      exact made_mk rfl S.out.1 S.out.2.1 S.out.2.2
end Go.Proofs.YtdiamknibfamdaaGreat
/- plan.May. -/
namespace Go.Proofs.YtdiamknibfamdaaGreat
open Go.RowKit Go.Shelf

def namedOf (cs : List Channel) : List Int := cs.flatMap (·.ledgers)
/-- May a plan be? -/
def mayB (p : Plan) : Bool :=
  countsB [p.version] && fromB p.next 1 4611686018427387904 && fromB p.channels.length 1 3 && p.ledgers.all (fun l => mayLedgerB l && decide (l.id < p.next)) && riseB (p.ledgers.map (·.id)) &&
    decide ((namedOf p.channels).Perm (p.ledgers.map (·.id))) && p.channels.all (channelB p.ledgers) && riseB (p.past.map (·.who)) && p.past.all pastB

theorem rise_pairwise : ∀ (l : List Int), riseB l = true → l.Pairwise (fun x y => x ≤ y)
  | [], _ => List.Pairwise.nil
  | [a], _ => List.pairwise_singleton _ _
  | a :: b :: t, h => by
    simp only [riseB, Bool.and_eq_true, decide_eq_true_eq] at h
    have ih := rise_pairwise (b :: t) h.2
    refine List.pairwise_cons.2 ⟨fun x hx => ?_, ih⟩
    rcases List.mem_cons.1 hx with rfl | hx
    · omega
    · have := (List.pairwise_cons.1 ih).1 x hx
      omega
theorem sorted_eq (ys xs ids : List Int) (hp : ys.Perm xs) (hs : ys.Pairwise fun x y => x ≤ y) (hr : riseB ids = true) : decide (ys = ids) = decide (xs.Perm ids) := by
  refine decide_eq_decide.2 ⟨fun h => h ▸ hp.symm, fun h => ?_⟩
  exact (hp.trans h).eq_of_pairwise (le := fun x y => x ≤ y) (fun a b _ _ h1 h2 => Int.le_antisymm h1 h2) hs (rise_pairwise ids hr)

theorem enters62 : ∀ args w, (callFunc 62 args).run Tryz.prog w = .ok (.enter 62 args) w := enters_of Tryz.func62 (by kernel_rfl) rfl

theorem alloc_size (w : World) (o : Obj) : (w.alloc o).heap.size = w.heap.size + 1 := by simp
theorem nums_row {w wr : World} {o : Obj} {xs : List Int} {v : Value} (h : NumsSoFar (w.alloc o) wr xs v) : wr.ownsRow (w.heap.size + 1) 22 1 v xs.length (xs.flatMap eU64.enc) := alloc_size w o ▸ h.1

theorem of_not_true {b : Bool} (h : (!b) = true) : b = false := by cases b <;> simp_all
theorem of_not_false {b : Bool} (h : (!b) = false) : b = true := by cases b <;> simp_all
theorem equal56' (va a6 : Option Addr) (vc c6 : Nat) (ys zs : List Int) (W : World) (h1 : SlOk eU64 W ⟨va, vc, ys⟩) (h2 : SlOk eU64 W ⟨a6, c6, zs⟩) :
    Calls Tryz.prog 56 #[.slice va ys.length vc, .slice a6 zs.length c6] W fun e w' => e = .returned (.bool (decide (ys = zs))) ∧ Below W.heap.size W w' :=
  equal56 ⟨va, vc, ys⟩ ⟨a6, c6, zs⟩ W h1 h2

set_option maxHeartbeats 4000000 in
set_option maxRecDepth 100000 in
theorem may16 (p : PlanR) (w : World) (hp : p.Ok w) (hb : PlanSmall p) : Calls Tryz.prog 16 #[p.v] w fun e w' => e = .returned (.bool (mayB p.d)) ∧ Below w.heap.size w w' := by
  obtain ⟨i0, hi, hz0, hz1, hz2⟩ := info_parts info22
  have hle := hp.channels.le
  have hcap := hp.channels.cap
  have hcn := hb.channels
  have hrows := hb.rows
  have hall := fun W (hW : Below w.heap.size w W) (hc : W.cell? ⟨w.heap.size, 1, none⟩ = some (.int .u64 p.next)) (hlt : w.heap.size < W.heap.size) => all51 p.ledgers (fun l => mayLedgerB l.d && decide (l.id < p.next)) 52 #[.pointer (some ⟨w.heap.size, 0, none⟩)] enters52 W (hp.ledgers.mono hW)
    (fun W' x hx hb' => mayClosure52 x w.heap.size p W' (blt hb' hlt) ((hb'.cell (p := ⟨w.heap.size, 1, none⟩) hlt).trans hc) (eLedger.mono (hp.ledgers.ok x hx) (bthen hW hb')) (hb.each x hx))
  have hri := fun W (hW : Below w.heap.size w W) => rise54 p.ledgers (fun x => x.id) 55 #[] enters55 W (hp.ledgers.mono hW) (fun W' x _ _ => key55 x W')
  have hids := fun W (hW : Below w.heap.size w W) => ids57 p W (hp.mono hW) hb
  have hchan := fun W k c (hW : Below w.heap.size w W) (hk : p.channels.xs[k]? = some c) => channel58 p k c W (hp.mono hW) hb hk
  have hrp := fun W (hW : Below w.heap.size w W) => rise59 p.past (fun x => x.who) 60 #[] enters60 W (hp.past.mono hW) (fun W' x _ _ => key60 x W')
  have hap := fun W (hW : Below w.heap.size w W) => all61 p.past pastB 62 #[] enters62 W (hp.past.mono hW) (fun W' x hx hb' => past62 x W' (ePast.mono (hp.past.ok x hx) (bthen hW hb')))
  have hv : ∀ y ∈ [p.version], U64 y := by
    intro y hy
    simp at hy
    subst hy
    exact hp.version
  have hcn1 : ∀ W B, W.heap[B]? = some (.cells #[.int .u64 p.version] 22 (0, 0)) → Calls Tryz.prog 48 #[.slice (some ⟨B, 0, none⟩) 1 1] W fun e w' => e = .returned (.bool (countsB [p.version])) ∧ Below W.heap.size W w' :=
    fun W B hB => counts_lit [p.version] W B 22 1 1 (by simpa using hB) hv rfl rfl (by decide)
  have e0 : mayB p.d = (countsB [p.version] && fromB p.next 1 4611686018427387904 && fromB p.channels.xs.length 1 3 && p.ledgers.xs.all (fun l => mayLedgerB l.d && decide (l.id < p.next)) && riseB (p.ledgers.xs.map (·.id)) &&
    decide ((p.channels.xs.flatMap (·.ledgers.xs)).Perm (p.ledgers.xs.map (·.id))) && p.channels.xs.all (fun c => channelB p.d.ledgers c.d) && riseB (p.past.xs.map (·.who)) && p.past.xs.all pastB) := by
    have h1 : namedOf p.d.channels = p.channels.xs.flatMap (·.ledgers.xs) := by simp [PlanR.d, namedOf, List.flatMap_map, ChannelR.d]
    have h2 : p.d.ledgers.map (·.id) = p.ledgers.xs.map (·.id) := by simp [PlanR.d, LedgerR.d]
    have h3 : (p.d.ledgers.all fun l => mayLedgerB l && decide (l.id < p.next)) = p.ledgers.xs.all (fun l => mayLedgerB l.d && decide (l.id < p.next)) := by
      show ((p.ledgers.xs.map LedgerR.d).all _) = _
      rw [List.all_map]
      rfl
    have h4 : (p.d.channels.all (channelB p.d.ledgers)) = p.channels.xs.all (fun c => channelB p.d.ledgers c.d) := by
      show ((p.channels.xs.map ChannelR.d).all _) = _
      rw [List.all_map]
      rfl
    have h5 : (p.d.channels.length : Int) = p.channels.xs.length := by simp [PlanR.d]
    show (countsB [p.version] && fromB p.next 1 4611686018427387904 && fromB p.d.channels.length 1 3 && (p.d.ledgers.all fun l => mayLedgerB l && decide (l.id < p.next)) && riseB (p.d.ledgers.map (·.id)) &&
      decide ((namedOf p.d.channels).Perm (p.d.ledgers.map (·.id))) && p.d.channels.all (channelB p.d.ledgers) && riseB (p.past.xs.map (·.who)) && p.past.xs.all pastB) = _
    rw [h1, h2, h3, h4, h5]
  have hchs := hp.channels
  clear hv
  generalize mayB p.d = r at e0 ⊢
  generalize p.d.ledgers = LS at e0 hchan
  clear hp hb
  obtain ⟨pv, pn, ⟨ca, cc, cs⟩, ⟨la, lc, ls⟩, ⟨pa, pc, ps⟩⟩ := p
  dsimp only at *
  go_enter Tryz.func16, Tryz.ntmps16
  go_wp2
  go_loopg [3, 10] cs.length (fun gg s3 s10 wr => ∃ kk : Nat, kk ≤ cs.length ∧ cs.length - kk ≤ gg ∧ s10 = .int .i64 kk ∧ Aside (NumsSoFar (w.alloc (.cells #[.int .u64 pv, .int .u64 pn, .slice ca cs.length cc, .slice la ls.length lc, .slice pa ps.length pc] 27 (0, 0))) wr ((cs.take kk).flatMap (·.ledgers.xs)) s3 ∧ ((cs.take kk).flatMap (·.ledgers.xs)).length ≤ 1000 * kk))
  case atStart => exact ⟨0, Nat.zero_le _, by omega, rfl, nums_start _ (Below.refl _ _), by simp⟩
  case round =>
    obtain ⟨kk, hkk, hg, rfl, S⟩ := hrel
    by_cases hlt : kk < cs.length
    · obtain ⟨b, off, y, ha, hy, hblk, hat, hok⟩ := (hchs.mono (bthen (b1 _ _) S.out.1.2.2)).get (j := kk) hlt
      have hc := at_channel hat
      dsimp only at ha hy
      simp only [show eChannel.k = 9 from rfl] at hc
      obtain ⟨c0, c1, c2, c3, c4, c5, c6, c7, c8⟩ := hc
      have hyl := hok.ledgers
      have hyn := (hrows y (List.mem_of_getElem? hy)).1
      have htk : (cs.take (kk + 1)).flatMap (·.ledgers.xs) = (cs.take kk).flatMap (·.ledgers.xs) ++ y.ledgers.xs := by rw [List.take_add_one, hy]; simp
      have HTK : Hid _ := htk
      have HYL : Aside _ := hyl
      have HYN : Hid _ := hyn
      have hnl := S.out.2
      generalize hN : ((cs.take kk).flatMap (·.ledgers.xs)) = N at S HTK hnl
      have HN : Hid _ := hN
      obtain ⟨ep, ow, ic, re, fi, tr, ⟨ia, icp, is⟩, ⟨sa, sc, ss⟩, ⟨ua, uc, us⟩⟩ := y
      dsimp only at HTK HYL HYN
      clear hat hok htk hyl hyn hy hN hall hri hids hchan hrp hap hcn1
      subst ha
      have hltz : (kk : Int) < (cs.length : Int) := by omega
      have S1 := S.out.1.below (b1 wr (.cells #[.int .u64 ep, .int .i64 ow, .int .u64 ic, .int .u64 re, .int .u64 fi, .int .u64 tr, .slice ia is.length icp, .slice sa ss.length sc, .slice ua us.length uc] 42 (0, 0)))
      have HS1 : Aside _ := S1
      clear S1
      go_wp2_with (at_builtin; refine wpList_append_all eU64 _ rfl _ _ 38 rfl (w.heap.size + 1) 22 i0 (.int .u64 0) 8 Tryz.underlying38 hi hz0 hz1 hz2 rfl (by decide) _ _ _ rfl (nums_row HS1.out) ⟨ia, icp, is⟩ (HYL.out.mono (b1 _ _)) rfl ?qc4 ?qc5 ?qc6 ?_)
      case qc4 => have := HYN.out; unfold maxLen; omega
      case qc5 => have := HYN.out; omega
      case qc6 => have := S.out.1.2.2.size; simp at this; omega
      intro v' w3 hown3 hgrow
      have hst := nums_step HS1.out (fun x hx => HYL.out.ok x hx) (by rw [alloc_size]; exact hown3) hgrow
      have HST : Aside _ := hst
      clear hst hown3 hgrow
      go_wp2
      go_roundg (cs.length - (kk + 1))
      case measure => omega
      case rel => exact ⟨kk + 1, by omega, by omega, by go_num, by rw [HTK.out]; exact HST.out, by rw [HTK.out, List.length_append]; have := HYN.out; omega⟩
    · have hltz : ¬ (kk : Int) < (cs.length : Int) := by omega
      clear hrows hchs
      rw [List.take_of_length_le (by omega)] at S
      obtain ⟨hS, hnl⟩ := S.out
      generalize cs.flatMap (·.ledgers.xs) = N at hS hnl e0
      obtain ⟨va, vc, rfl, _⟩ := nums_done hS
      have hrow := nums_row hS
      clear S
      go_wp2_with fail
      refine (sort47 va vc N _ _ hrow (by omega)).mono ?_
      rintro e w2 ⟨rfl, ys, hpm, hpw, ho2, hln, hg2⟩
      have hge : ∀ k, Value.ownBlock (.slice va N.length vc) = some k → w.heap.size + 1 ≤ k := fun k hk => (own_lt hrow hk).1
      have hB0 : Below (w.heap.size + 1) (w.alloc (.cells #[.int .u64 pv, .int .u64 pn, .slice ca cs.length cc, .slice la ls.length lc, .slice pa ps.length pc] 27 (0, 0))) wr := alloc_size w _ ▸ hS.2.2
      have hsz : w.heap.size < wr.heap.size := by have := hB0.size; simp at this; omega
      have hB1 : Below w.heap.size w wr := bthen (b1 _ _) hS.2.2
      have hB2 : Below w.heap.size w w2 := hB1.grown hg2 (by omega) (fun k hk => by have := hge k hk; omega)
      have hP2 := (hg2.block w.heap.size hsz (fun h => by have := hge _ h.symm; omega)).trans ((hB0.block w.heap.size (by omega)).trans (heap_top w _ _ rfl))
      obtain ⟨a2, c2', hv2, hys⟩ := own_ok (E := eU64) ho2 (fun x hx => hS.2.1 x (hpm.mem_iff.1 hx))
      cases hv2
      have e1 : r = (countsB [pv] && fromB pn 1 4611686018427387904 && fromB cs.length 1 3 && ls.all (fun l => mayLedgerB l.d && decide (l.id < pn)) && riseB (ls.map (·.id)) &&
          decide (ys = ls.map (·.id)) && cs.all (fun c => channelB LS c.d) && riseB (ps.map (·.who)) && ps.all pastB) := by
        rw [e0]
        cases hr : riseB (ls.map (·.id)) with
        | false => simp
        | true => rw [sorted_eq ys N _ hpm hpw hr]
      have heq := fun W a6 c6 => equal56' va a6 vc c6 ys (ls.map (·.id)) W
      rw [hln] at heq
      have HYS : Aside _ := hys
      obtain ⟨c0, c1, c2, c3, c4, f0, f1, f2, f3, f4⟩ := cells5 hP2
      clear hS hnl hrow hg2 ho2 hpw hpm hge hB0 hB1 e0
      simp only [List.length_map] at hids heq
      generalize countsB [pv] = b1' at hcn1 e1
      generalize (ls.all fun l => mayLedgerB l.d && decide (l.id < pn)) = b2' at hall e1
      generalize riseB (ls.map (·.id)) = b3' at hri e1
      generalize riseB (ps.map (·.who)) = b4' at hrp e1
      generalize ps.all pastB = b5' at hap e1
      generalize decide (ys = ls.map (·.id)) = b6' at heq e1
      have E1 : Hid _ := e1
      have hL2 := box_lt hP2
      clear e1 hln
      go_wp2_with (first | (go_at_call 48; refine (hcn1 _ _ (heap_top w2 _ _ rfl)).mono ?_; rintro e w3 ⟨rfl, hb3⟩; have hB3 := bthen (balloc hB2 _) hb3; have hP3 := box_mono hP2 (bthen (b1 _ _) hb3); have hL3 := box_lt hP3; obtain ⟨c0, c1, c2, c3, c4, f0, f1, f2, f3, f4⟩ := cells5 hP3) | (go_at_call 49; refine (from49 _ _ _ _).mono ?_; rintro e w' ⟨rfl, rfl⟩) | (go_at_call 50; refine (from50 _ _ _ _).mono ?_; rintro e w' ⟨rfl, rfl⟩) | (go_at_call 51; refine (hall _ hB3 c1 hL3).mono ?_; rintro e w4 ⟨rfl, hb4⟩; have hB4 := bthen hB3 hb4; have hP4 := box_mono hP3 hb4; have hL4 := box_lt hP4; obtain ⟨c0, c1, c2, c3, c4, f0, f1, f2, f3, f4⟩ := cells5 hP4) | (go_at_call 54; refine (hri _ hB4).mono ?_; rintro e w5 ⟨rfl, hb5⟩; have hB5 := bthen hB4 hb5; have hP5 := box_mono hP4 hb5; have hL5 := box_lt hP5; obtain ⟨c0, c1, c2, c3, c4, f0, f1, f2, f3, f4⟩ := cells5 hP5) | (go_at_call 57; refine (hids _ hB5).mono ?_; rintro e w6 ⟨a6, c6, rfl, hs6, ho6, hb6⟩; have hB6 := bthen hB5 hb6; have hP6 := box_mono hP5 hb6; have hL6 := box_lt hP6; have hY6 := hys.mono (bthen (bthen (bthen (bthen (b1 _ _) hb3) hb4) hb5) hb6); obtain ⟨c0, c1, c2, c3, c4, f0, f1, f2, f3, f4⟩ := cells5 hP6) | (go_at_call 56; refine (heq _ _ _ hY6 hs6).mono ?_; rintro e w7 ⟨rfl, hb7⟩; have hB7 := bthen hB6 hb7; have hP7 := box_mono hP6 hb7; have hL7 := box_lt hP7; obtain ⟨c0, c1, c2, c3, c4, f0, f1, f2, f3, f4⟩ := cells5 hP7))
      all_goals first
        | (go_ret
           refine ⟨ret_bool ?_, ?_⟩
           · rw [E1.out]
             first | (rw [Bool.eq_false_iff.2 ‹¬ b1' = true›]; simp only [Bool.false_and]; done) | (rw [Bool.eq_false_iff.2 ‹¬ fromB pn 1 4611686018427387904 = true›]; simp only [Bool.false_and, Bool.and_false]; done) | (rw [Bool.eq_false_iff.2 ‹¬ fromB (cs.length : Int) 1 3 = true›]; simp only [Bool.false_and, Bool.and_false]; done) | (rw [Bool.eq_false_iff.2 ‹¬ b2' = true›]; simp only [Bool.false_and, Bool.and_false]; done) | (rw [Bool.eq_false_iff.2 ‹¬ b3' = true›]; simp only [Bool.false_and, Bool.and_false]; done) | (rw [of_not_true ‹(!b6') = true›]; simp only [Bool.false_and, Bool.and_false]; done)
           · first | exact hB7 | exact hB5 | exact hB4 | exact hB3)
        | skip
      have E2 : Hid (r = (cs.all (fun c => channelB LS c.d) && b4' && b5')) := by
        show r = _
        rw [E1.out, ‹b1' = true›, ‹fromB pn 1 4611686018427387904 = true›, ‹fromB (cs.length : Int) 1 3 = true›, ‹b2' = true›, ‹b3' = true›, of_not_false ‹(!b6') = false›]
        simp only [Bool.true_and]
      obtain rfl : b6' = true := of_not_false ‹(!b6') = false›
      simp only [Bool.not_true]
      have BX : Aside _ := (⟨hB7, hP7⟩ : _ ∧ _)
      clear hB7 hP7 hB6 hP6 hB5 hP5 hB4 hP4 hB3 hP3 hB2 hP2 hall hri hids hcn1 heq hb7 hb6 hb5 hb4 hb3 hY6 hs6 ho6 hys
      go_loopg [62] cs.length (fun gg s62 wx => ∃ j : Nat, j ≤ cs.length ∧ cs.length - j ≤ gg ∧ s62 = .int .i64 j ∧ Aside (cs.all (fun c => channelB LS c.d) = (cs.drop j).all (fun c => channelB LS c.d)) ∧ Aside (Below w.heap.size w wx ∧ wx.heap[w.heap.size]? = some (.cells #[.int .u64 pv, .int .u64 pn, .slice ca cs.length cc, .slice la ls.length lc, .slice pa ps.length pc] 27 (0, 0))))
      case atStart => exact ⟨0, Nat.zero_le _, by omega, rfl, by simp [Aside], BX.out⟩
      case round =>
        obtain ⟨j, hj, hg, rfl, A, BY⟩ := hrel
        have hB := BY.out.1
        have hP := BY.out.2
        obtain ⟨c0, c1, c2, c3, c4, f0, f1, f2, f3, f4⟩ := cells5 hP
        have hlt1 := box_lt hP
        have HB : Aside _ := hB
        have HP : Aside _ := hP
        clear hB hP BY
        by_cases hlt : j < cs.length
        · have hltz : (j : Int) < (cs.length : Int) := by omega
          have hy : cs[j]? = some cs[j] := List.getElem?_eq_getElem hlt
          have hch := hchan wr j cs[j] HB.out hy
          have hdr : cs.drop j = cs[j] :: cs.drop (j + 1) := List.drop_eq_getElem_cons hlt
          have A2 : Hid (cs.all (fun c => channelB LS c.d) = (channelB LS cs[j].d && (cs.drop (j + 1)).all (fun c => channelB LS c.d))) := by
            show cs.all (fun c => channelB LS c.d) = _
            rw [A.out, hdr]
            rfl
          generalize channelB LS cs[j].d = q at hch A2
          clear hdr hy hchan
          have hw1 : IntKind.i64.wrap ((j : Int) + 1) = (j : Int) + 1 := wrap_i64 (by omega) (by omega)
          go_wp2_with fail
          refine hch.mono ?_
          rintro x w3 ⟨rfl, hb3⟩
          have hB3 := bthen HB.out hb3
          have hP3 := box_mono HP.out hb3
          have HB3 : Aside _ := hB3
          have HP3 : Aside _ := hP3
          clear hB3 hP3 hb3 hch hrp hap
          cases q with
          | false =>
            dsimp only
            go_wp2
            go_ret
            exact ⟨ret_bool (by rw [E2.out, A2.out]; rfl), HB3.out⟩
          | true =>
            dsimp only
            go_wp2
            go_roundg (cs.length - (j + 1))
            case measure => omega
            case rel => exact ⟨j + 1, by omega, by omega, by go_num, by show cs.all (fun c => channelB LS c.d) = _; rw [A2.out, Bool.true_and], HB3.out, HP3.out⟩
        · have hltz : ¬ (j : Int) < (cs.length : Int) := by omega
          have hA : Hid (cs.all (fun c => channelB LS c.d) = true) := by
            show cs.all (fun c => channelB LS c.d) = true
            rw [A.out, List.drop_eq_nil_of_le (by omega)]
            rfl
          clear hchan
          go_wp2_with (first | (go_at_call 59; refine (hrp _ HB.out).mono ?_; rintro e w3 ⟨rfl, hb3⟩; have hB3 := bthen HB.out hb3; have hP3 := box_mono HP.out hb3; have hL3 := box_lt hP3; obtain ⟨c0, c1, c2, c3, c4, f0, f1, f2, f3, f4⟩ := cells5 hP3) | (go_at_call 61; refine (hap _ hB3).mono ?_; rintro e w4 ⟨rfl, hb4⟩; have hB4 := bthen hB3 hb4))
          all_goals
            go_ret
            refine ⟨ret_bool ?_, ?_⟩
            · rw [E2.out, hA.out]
              first | (rw [Bool.eq_false_iff.2 ‹¬ b4' = true›]; rfl) | (rw [‹b4' = true›]; rfl)
            · first | exact hB4 | exact hB3
end Go.Proofs.YtdiamknibfamdaaGreat
