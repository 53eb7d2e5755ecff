/- Whether a plan may be. -/
import Derived.Test.YtdiamknibfamdaaGreatChan
import Derived.Test.YtdiamknibfamdaaGreatSortE
import Derived.Test.YtdiamknibfamdaaGreatEqual
namespace Go.Proofs.YtdiamknibfamdaaGreat
open Go.RowKit Go.Shelf

/-- A row of numbers so far put together. -/
def NumsSoFar (w wr : World) (xs : List Int) (v : Value) : Prop :=
  wr.ownsRow w.heap.size 22 1 v xs.length (xs.flatMap eU64.enc) ∧ (∀ x ∈ xs, U64 x) ∧ Below w.heap.size w wr
theorem nums_start (w : World) {wr : World} (hb : Below w.heap.size w wr) : NumsSoFar w wr [] (.slice none 0 0) := ⟨⟨by simp, .inl ⟨rfl, rfl⟩⟩, (fun _ h => by cases h), hb⟩
theorem NumsSoFar.below {w wr W : World} {xs : List Int} {v : Value} (h : NumsSoFar w wr xs v) (hb : Below wr.heap.size wr W) : NumsSoFar w W xs v := ⟨own_below h.1 hb, h.2.1, bthen h.2.2 hb⟩
theorem nums_step {w wr w3 : World} {xs ys : List Int} {v v' : Value} (h : NumsSoFar w wr xs v) (hy : ∀ y ∈ ys, U64 y)
    (hown3 : w3.ownsRow w.heap.size 22 1 v' (xs.length + ys.length) (xs.flatMap eU64.enc ++ ys.flatMap eU64.enc)) (hg : wr.grownBy w3 v.ownBlock) : NumsSoFar w w3 (xs ++ ys) v' :=
  ⟨by simpa using hown3, fun x hx => (List.mem_append.1 hx).elim (h.2.1 x) (hy x), h.2.2.grown hg h.2.2.size (fun _ hk => (own_lt h.1 hk).1)⟩
theorem nums_done {w wr : World} {xs : List Int} {v : Value} (h : NumsSoFar w wr xs v) : ∃ a c, v = .slice a xs.length c ∧ SlOk eU64 wr ⟨a, c, xs⟩ := by
  obtain ⟨a, c, hv, hs⟩ := own_ok (E := eU64) h.1 h.2.1
  exact ⟨a, c, hv, hs⟩

theorem heap2_1' (w : World) (A B : Obj) : ((w.alloc A).alloc B).heap[w.heap.size + 1]? = some B := heap2_1 w A B

theorem run_append_none {P : Program} (w : World) (t ty e : TypeId) (i : TypeInfo) (ht : P.underlying t = some (.slice e)) (hi : P.info? e = some i) (a : Option Addr) (n c : Nat) (hn : n ≤ c) :
    (Builtin.append_ #[t, t] ty #[.slice a n c, .slice none 0 0]).run P w = .ok (.slice a n c) w := by
  cases a <;> simp [Builtin.append_, run_underlying ht, sizeOf, typeInfo, hi, Builtin.lenOf, Builtin.firstCells, loadCells, storeCells, hn]
/-- A row of elements, whole, put behind a row of one's own: the source may be nil. -/
theorem wpList_append_all {α : Type} (E : El α) {P : Program} (w : World) {ops : Array Oper} {rest : List Oper} {o : Oper} {a : Act} {Q : Exit → Act → World → Prop} (hgd : o.guard = none) (s x : Operand) (t : TypeId)
    (ho : o.op = .call { callee := .builtin .append, args := #[s, x], argTypes := #[t, t] })
    (base : Nat) (e : TypeId) (i : TypeInfo) (z : Value) (bytes : Nat) (ht : P.underlying t = some (.slice e)) (hi : P.info? e = some i) (hz : i.zero = some z)
    (hsize : i.size = E.k) (hby : i.bytes = bytes) (hzs : z.cells.size = E.k) (hsz : 0 < E.k)
    (v : Value) (n : Nat) (xs : List Value) (hs : a.eval s = v) (hown : w.ownsRow base e E.k v n xs)
    (r : Sl α) (hr : SlOk E w r) (hx : a.eval x = .slice r.a r.xs.length r.c)
    (h63 : n + r.xs.length ≤ maxLen) (hbytes : (n + r.xs.length) * bytes ≤ 140737488355328) (hbase : base ≤ w.heap.size)
    (h : ∀ v' w', w'.ownsRow base e E.k v' (n + r.xs.length) (xs ++ r.xs.flatMap E.enc) → w.grownBy w' v.ownBlock → wpList P ops Q rest (a.put o.dst v') w') : wpList P ops Q (o :: rest) a w := by
  obtain ⟨ra, rc, ys⟩ := r
  dsimp only at *
  cases ra with
  | none =>
    obtain ⟨h1, h2⟩ := hr.nil rfl
    dsimp only at h1 h2
    subst h1 h2
    have hform : ∃ b k c, v = .slice b k c ∧ k ≤ c := by
      rcases hown.2 with ⟨rfl, rfl⟩ | ⟨g, cap, cur, rfl, _, _, hnc, _⟩
      · exact ⟨_, _, _, rfl, Nat.le_refl _⟩
      · exact ⟨_, _, _, rfl, hnc⟩
    obtain ⟨b, k, c, rfl, hk⟩ := hform
    refine wpList_plain hgd fun _ hK => ?_
    unfold Oper.wp execOp
    have hrun := run_append_none (P := P) w t o.type e i ht hi b k c hk
    simp only [List.length_nil] at hx
    simp only [ho, resolve, invoke, builtin, Sem.run_bind, Sem.run_pure, Result.andThen_ok, List.map_toArray, List.map_cons, List.map_nil, hs, hx, hrun]
    exact hK _ _ (h _ _ (by simpa using hown) ⟨rfl, rfl, rfl, Nat.le_refl _, fun _ _ _ => rfl⟩)
  | some ad =>
    refine wpList_append_own w hgd s x t ho base e i z E.k bytes ht hi hz hsize hby hzs hsz v n xs hs hown ad ys.length rc (ys.flatMap E.enc) hx (flat_len E ys) ?_ (flat_one E ys) h63 hbytes hbase fun v' w' h1 h2 _ => h v' w' h1 h2
    intro j u hj
    obtain ⟨q, k, y, rfl, hq, hk⟩ := flat_get E ys j u hj
    obtain ⟨b, off, ha, _, hat⟩ := hr.at_ (fun h0 => by dsimp only at h0; rw [h0] at hq; simp at hq)
    dsimp only at ha
    cases ha
    have := hat q y hq k u hk
    rw [Addr.add_lit]
    rw [← this]
    congr 2
    omega

set_option maxHeartbeats 2000000 in
set_option maxRecDepth 100000 in
theorem ids57 (p : PlanR) (w : World) (hp : p.Ok w) (hb : PlanSmall p) : Calls Tryz.prog 57 #[p.v] w (Made eU64 22 (p.ledgers.xs.map (·.id)) w) := by
  obtain ⟨i0, hi, hz0, hz1, hz2⟩ := info_parts info22
  have hs := hp.ledgers
  have hle := hs.le
  have hcap := hs.cap
  have hn := hb.ledgers
  clear hp hb
  obtain ⟨pv, pn, ⟨ca, cc, cs⟩, ⟨la, lc, ls⟩, ⟨pa, pc, ps⟩⟩ := p
  dsimp only at hs hle hcap hn ⊢
  go_enter Tryz.func57, Tryz.ntmps57
  go_wp2
  go_loopg [3, 9] ls.length (fun gg s3 s9 wr => ∃ kk : Nat, kk ≤ ls.length ∧ ls.length - kk ≤ gg ∧ s9 = .int .i64 kk ∧ Aside (NumsSoFar w wr ((ls.take kk).map (·.id)) s3))
  case atStart => exact ⟨0, Nat.zero_le _, by omega, rfl, nums_start w (b1 _ _)⟩
  case round =>
    obtain ⟨kk, hkk, hg, rfl, S⟩ := hrel
    by_cases hlt : kk < ls.length
    · obtain ⟨b, off, y, ha, hy, hblk, hat, hok⟩ := (hs.mono S.out.2.2).get (j := kk) hlt
      have hc := at_ledger hat
      dsimp only at ha hy
      simp only [show eLedger.k = 6 from rfl] at hc
      obtain ⟨c0, c1, c2, c3, c4, c5⟩ := hc
      have hU : U64 y.id := hok.1
      have htk : (ls.take (kk + 1)).map (·.id) = (ls.take kk).map (·.id) ++ [y.id] := by rw [List.take_add_one, hy]; simp
      have HTK : Hid _ := htk
      have HU : Hid _ := hU
      obtain ⟨yi, yw, ya, ⟨fa, fc, fx⟩, yc, yl⟩ := y
      clear hat hok hs htk hU hy
      subst ha
      have hltz : (kk : Int) < (ls.length : Int) := by omega
      have hlen : ((ls.take kk).map (·.id)).length = kk := by simp; omega
      have HLEN : Hid _ := hlen
      clear hlen
      go_wp2_with (at_builtin; refine wpList_append_own _ rfl _ _ 38 rfl w.heap.size 22 i0 (.int .u64 0) 1 8 Tryz.underlying38 hi hz0 hz1 hz2 rfl (by decide) _ _ _ rfl (own_below S.out.1 (balloc (b1 _ _) _)) ⟨wr.heap.size + 1, 0, none⟩ 1 1 [.int .u64 yi] rfl rfl ?qc2 ?qc3 ?qc4 ?qc5 ?qc6 ?_)
      case qc3 => rfl
      case qc4 => unfold maxLen; omega
      case qc5 => omega
      case qc6 => have h1 := S.out.2.2.size; simp; omega
      intro v' w3 hown3 hgrow hnil
      have hst := nums_step (ys := [yi]) (S.out.below (balloc (b1 _ _) _)) (fun x hx => by simp at hx; subst hx; exact HU.out) (by rw [HLEN.out, List.map_take]; exact hown3) hgrow
      have HST : Aside _ := hst
      clear hst hown3 hgrow hnil
      go_wp2
      go_roundg (ls.length - (kk + 1))
      case measure => omega
      case rel => exact ⟨kk + 1, by omega, by omega, by go_num, by rw [HTK.out]; exact HST.out⟩
    · have hltz : ¬ (kk : Int) < (ls.length : Int) := by omega
      clear hs
      go_wp2
      go_ret
      rw [List.take_of_length_le (by omega)] at S
      exact made_mk rfl S.out.1 S.out.2.1 S.out.2.2
end Go.Proofs.YtdiamknibfamdaaGreat
