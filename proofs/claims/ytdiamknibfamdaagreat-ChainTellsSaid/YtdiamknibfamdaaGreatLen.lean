/- All spots of a channel, collected. -/
import Derived.Test.YtdiamknibfamdaaGreatSpots
import Derived.Maps.AppendAt
import Derived.Deep.RegionHeld3
namespace Go.Proofs.YtdiamknibfamdaaGreat
open Go.RowKit Go.Shelf
attribute [local go_sem] Oper.semAt_some

theorem Kept.setBox {T : TypeId → Prop} {n0 B : Nat} {W : World} {t : TypeId} {v : Value} (h : Boxed W B t v) (hT : ¬ T t) (hn : n0 ≤ B) (u : Value) : Kept T n0 W (W.setCell ⟨B, 0, none⟩ u) :=
  ⟨(Below.refl n0 W).setCell (p := ⟨B, 0, none⟩) hn u, fun k c t' fr hk ht => (Below.heap_setCell W ⟨B, 0, none⟩ u k (fun e => by
    subst e
    have h' : W.heap[k]? = some (.cells #[v] t (0, 0)) := h
    rw [h'] at hk
    cases hk
    exact hT ht)).trans hk⟩
/-- Behind an append to a row of one's own, and the store of it into its variable. -/
theorem Kept.appended {T : TypeId → Prop} {n0 n1 B : Nat} {W w1 : World} {t e : TypeId} {size k m : Nat} {v v' : Value} {xs ys : List Value} {tmp : Obj} (hv : Boxed W B t v) (hte : t ≠ e) (hrow : W.ownsRow n1 e size v k xs) (hn1 : n1 ≤ W.heap.size) (hB : n1 ≤ B) (h01 : n0 ≤ n1)
    (hTt : ¬ T t) (hTe : ¬ T e) (hown' : w1.ownsRow n1 e size v' m ys) (hgrow : (W.alloc tmp).grownBy w1 v.ownBlock) : Kept T n0 W (w1.setCell ⟨B, 0, none⟩ v') := by
  obtain ⟨hv1, _⟩ := hv.appended hte hrow hn1 hB hown' hgrow
  refine (Kept.of_below (b1 W tmp) (Nat.le_trans h01 hn1)).trans (Kept.trans (Kept.grown hgrow (by simp; omega) fun k hk => ?_) (Kept.setBox hv1 hTt (Nat.le_trans h01 hB) v'))
  obtain ⟨hl, ⟨rfl, _⟩ | ⟨g, cap, cur, rfl, hg, hh, _⟩⟩ := hrow.alloc tmp
  · cases hk
  · cases hk
    refine ⟨Nat.le_trans h01 hg, fun c t' fr hc ht => ?_⟩
    rw [hh] at hc
    cases hc
    exact hTe ht

theorem info33 : (Tryz.prog.info? 33).map (fun i => (i.zero, i.size, i.bytes)) = some (some (.agg #[.int .u64 0, .int .u64 0, .int .u64 0]), 3, 24) := by kernel_rfl

/-- What the callers of chain.spots leave alone. -/
abbrev NoSpot (t : TypeId) : Prop := t ≠ 30 ∧ t ≠ 33 ∧ t ≠ 34

theorem cells3_new (W : World) (a b c : Value) (t : TypeId) : ∀ (j : Nat) (u : Value), [a, b, c][j]? = some u → (W.alloc (.cells #[a, b, c] t)).cell? ((⟨W.heap.size, 0, none⟩ : Addr).add j) = some u := by
  intro j u hj
  match j, hj with
  | 0, hj => simp at hj; subst hj; simp [Addr.add_lit]
  | 1, hj => simp at hj; subst hj; simp [Addr.add_lit]
  | 2, hj => simp at hj; subst hj; simp [Addr.add_lit]
  | j + 3, hj => simp at hj
theorem ints3_one (a b c : Int) : ∀ u ∈ [Value.int .u64 a, Value.int .u64 b, Value.int .u64 c], u.oneCell' = true := by
  intro u hu
  simp at hu
  rcases hu with rfl | rfl | rfl <;> rfl
theorem rowOwn {β : Type} (n₀ B : Nat) (t e : TypeId) (size : Nat) (k : β → Nat) (f : β → List Value) : Own (fun s W => ∃ v, Boxed W B t v ∧ W.ownsRow n₀ e size v (k s) (f s)) := by
  rintro s X Y row ⟨v, hv, hr⟩ hg hrow
  obtain ⟨v', h1, h2, _⟩ := holdsRow_own n₀ B t e size k f (fun _ _ => True) s X Y row ⟨v, hv, hr, trivial⟩ hg hrow
  exact ⟨v', h1, h2⟩

set_option maxHeartbeats 4000000 in
set_option maxRecDepth 100000 in
theorem append92 (n : Nat) (hn1 : 3 ≤ n) (p : PlanR) (ch sure : Int) (B1 B2 B3 : Nat) (wp w : World) (hp : p.Ok wp) (hb : PlanSmall p) (hs : U64 sure)
    (hw : Below wp.heap.size wp w) (hB1 : w.heap[B1]? = some (.cells #[.int .u64 p.version, .int .u64 p.next, .slice p.channels.a p.channels.xs.length p.channels.c, .slice p.ledgers.a p.ledgers.xs.length p.ledgers.c, .slice p.past.a p.past.xs.length p.past.c] 27 (0, 0)))
    (hB2 : w.heap[B2]? = some (.cells #[.int .i64 ch] 3 (0, 0))) (hB3 : w.heap[B3]? = some (.cells #[.int .u64 sure] 22 (0, 0))) :
    CallsIn Fence.wide n Tryz.prog 92 #[.slice none 0 0, .func (.func 93) #[] #[.pointer (some ⟨B1, 0, none⟩), .pointer (some ⟨B2, 0, none⟩), .pointer (some ⟨B3, 0, none⟩)]] w (Made eSpot 33 (spotsB p.d ch sure) w) := by
  obtain ⟨i0, hi, hz0, hz1, hz2⟩ := info_parts info33
  have hsp := fun W0 (h : Below w.heap.size w W0) hW => spots93 NoSpot (by decide) (by decide) (by decide) (by decide) (n - 1) hW p ch sure B1 B2 B3 wp W0 hp hb hs (hw.trans (h.mono hw.size)) (box_mono hB1 h) (box_mono hB2 h) (box_mono hB3 h)
  generalize spotsB p.d ch sure = SS at hsp ⊢
  have HN : Hid _ := hn1
  have hn0 := hw.size
  clear hn1 hB1 hB2 hB3 hp hb hs hw
  refine callsIn_of_wp_marks Tryz.func92 rfl trivial ?_ rfl
  simp only [Tryz.ntmps92, List.size_toArray, List.length_cons, List.length_nil, Nat.reduceAdd, Nat.reduceSub, Array.replicate_succ, Array.replicate_zero, List.push_toArray, List.append_toArray, List.nil_append, List.cons_append]
  gi_wp2
  have bO := Boxed.new w 30 (.slice none 0 0)
  have hB0 : Below w.heap.size w (w.alloc (.cells #[.slice none 0 0] 30)) := b1 _ _
  have hsz : (w.alloc (.cells #[.slice none 0 0] 30)).heap.size = w.heap.size + 1 := by simp
  obtain ⟨W0, hW0⟩ : ∃ W0, w.alloc (.cells #[.slice none 0 0] 30) = W0 := ⟨_, rfl⟩
  rw [hW0] at bO hB0 hsz ⊢
  clear hW0
  have hseq := hsp W0 hB0 (by have := HN.out; omega)
  clear hsp
  refine wpIn_rangeFunc_mine rfl (by have := HN.out; omega) (gf := 93) (lb := #[.pointer (some ⟨B1, 0, none⟩), .pointer (some ⟨B2, 0, none⟩), .pointer (some ⟨B3, 0, none⟩)]) rfl trivial (enters_of Tryz.func93 (by kernel_rfl) rfl) hseq
    (fun h k => h.trans k) (fun W o o' ho hc _ => Kept.putObj o' (by omega) ho hc) (Below.refl _ _) (fun _ => rfl)
    (fun pre W => (∃ v, Boxed W w.heap.size 30 v ∧ W.ownsRow w.heap.size 33 3 v pre.length ((pre.map SX.d).flatMap eSpot.enc)) ∧ Below w.heap.size w W)
    (fun _ _ _ => False)
    (OwnFrom.and (Own.from (rowOwn w.heap.size w.heap.size 30 33 3 List.length (fun pre : List SX => (pre.map SX.d).flatMap eSpot.enc)) _) (ownFrom_below (Nat.le_refl _) (by omega)))
    (fun _ _ _ _ _ hs _ _ => hs)
    ⟨⟨_, bO, World.ownsRow_nil _ _ _ _⟩, hB0⟩
    (fun x a' W => ∃ Bx, W.heap[Bx]? = some (.cells #[.int .u64 x.1.offset, .int .u64 x.1.ledger, .int .u64 x.1.n] 33 (0, 0)) ∧ a' = { tmps := #[.slice none 0 0, .func (.func 93) #[] #[.pointer (some ⟨B1, 0, none⟩), .pointer (some ⟨B2, 0, none⟩), .pointer (some ⟨B3, 0, none⟩)], .pointer (some ⟨w.heap.size, 0, none⟩), undef, .slice none 0 0, .pointer (some ⟨Bx, 0, none⟩), .func (.func 93) #[] #[.pointer (some ⟨B1, 0, none⟩), .pointer (some ⟨B2, 0, none⟩), .pointer (some ⟨B3, 0, none⟩)], x.1.v, undef, undef, undef, undef, undef], defers := [] })
    (fun x a' _ A B row hs hg hr => by obtain ⟨Bx, h1, h2⟩ := hs; exact ⟨Bx, box_own h1 hg hr, h2⟩)
    ?assign ?body ?done ?stop
  case assign =>
    rintro l' pre x Wc K ⟨⟨v, hv, hrow⟩, hB⟩ hK
    have hsc := hB.size
    dsimp only [SX.encs]
    gi_wp2
    exact hK _ _ ((KeepsOthers.alloc _ _).from _) (Kept.of_below (b1 _ _) (by omega)) ⟨⟨v, hv.alloc _, hrow.alloc _⟩, balloc hB _⟩ ⟨Wc.heap.size, heap_top _ _ _ rfl, rfl⟩
  case body =>
    rintro l' pre x a' Wc hl ⟨r, hr⟩ ⟨⟨v, hv, hrow⟩, hB⟩ ⟨Bx, hbx, rfl⟩ hlen
    have hc := hv.cell
    obtain ⟨d0, d1, d2, e0, e1, e2⟩ := cells3 hbx
    have hlx := box_lt hbx
    gi_wp2_with (gi_at_builtin; refine wpListIn_append_own _ rfl _ _ 30 rfl w.heap.size 33 i0 (.agg #[.int .u64 0, .int .u64 0, .int .u64 0]) 3 24 Tryz.underlying30 hi hz0 hz1 hz2 rfl (by decide) _ _ _ rfl (hrow.alloc _) ⟨Wc.heap.size, 0, none⟩ 1 1 [.int .u64 x.1.offset, .int .u64 x.1.ledger, .int .u64 x.1.n] rfl rfl (cells3_new _ _ _ _ _) (ints3_one _ _ _) (by unfold maxLen; omega) (by omega) (by have := hB.size; simp; omega) ?_; intro v' w1 hown' hgrow _; obtain ⟨g', cap', rfl⟩ := ownsRow_succ hown'; obtain ⟨hv1, hv2, hr2, hk2, hb2⟩ := hv.appended (by decide) hrow hB.size (Nat.le_refl _) hown' hgrow; have hkp := Kept.appended (T := NoSpot) (n0 := wp.heap.size) hv (by decide) hrow hB.size (Nat.le_refl _) hn0 (by decide) (by decide) hown' hgrow; have hc1 := hv1.cell; have hf1 := hv1.frozen)
    refine ⟨hk2.from _, hkp, ⟨_, hv2, ?_⟩, hB.trans hb2⟩
    have e9 : ((pre ++ [x]).map SX.d).flatMap eSpot.enc = (pre.map SX.d).flatMap eSpot.enc ++ [.int .u64 x.1.offset, .int .u64 x.1.ledger, .int .u64 x.1.n] := by rw [List.map_append, List.flatMap_append]; rfl
    rw [e9, List.length_append]
    exact hr2
  case done =>
    rintro D xs W' hD hS ⟨⟨v, hv, hrow⟩, hB⟩ hDd
    have hc := hv.cell
    gi_wp2
    refine ⟨by simp, .inl ⟨_, _, rfl, run_takeDeferred hDd, ?_⟩⟩
    refine ⟨_, results_tmp rfl _ _ _, ?_⟩
    rw [← hS]
    refine made_mk rfl ?_ ?_ (hB.trans (belowK_b (w := w) (Nat.le_refl _) W' D _ _ (by omega) hDd rfl rfl))
    · have := ownsRow_putObj hrow (.deferred none) hDd rfl
      simpa [show eSpot.k = 3 from rfl] using this
    · intro y hy
      obtain ⟨z, _, rfl⟩ := List.mem_map.1 hy
      exact z.2
  case stop =>
    rintro D c pre W' _ _ h _
    exact h.elim
theorem collect45 (p : PlanR) (ch sure : Int) (B1 B2 B3 : Nat) (wp w : World) (hp : p.Ok wp) (hb : PlanSmall p) (hs : U64 sure)
    (hw : Below wp.heap.size wp w) (hB1 : w.heap[B1]? = some (.cells #[.int .u64 p.version, .int .u64 p.next, .slice p.channels.a p.channels.xs.length p.channels.c, .slice p.ledgers.a p.ledgers.xs.length p.ledgers.c, .slice p.past.a p.past.xs.length p.past.c] 27 (0, 0)))
    (hB2 : w.heap[B2]? = some (.cells #[.int .i64 ch] 3 (0, 0))) (hB3 : w.heap[B3]? = some (.cells #[.int .u64 sure] 22 (0, 0))) :
    Calls Tryz.prog 45 #[.func (.func 93) #[] #[.pointer (some ⟨B1, 0, none⟩), .pointer (some ⟨B2, 0, none⟩), .pointer (some ⟨B3, 0, none⟩)]] w (Made eSpot 33 (spotsB p.d ch sure) w) := by
  have h := callsIn_wide.1 (append92 5 (by decide) p ch sure B1 B2 B3 wp w hp hb hs hw hB1 hB2 hB3)
  generalize spotsB p.d ch sure = SS at h ⊢
  clear hp hb hs hw hB1 hB2 hB3
  go_enter Tryz.func45, Tryz.ntmps45
  go_wp2_with (go_at_call 92; refine h.mono ?_; rintro e w' ⟨a', c', rfl, hs', ho', hb'⟩)
  go_ret
  exact ⟨a', c', rfl, hs', ho', hb'⟩

theorem all15 (p : PlanR) (ch sure : Int) (w : World) (hp : p.Ok w) (hb : PlanSmall p) (hs : U64 sure) :
    Calls Tryz.prog 15 #[p.v, .int .i64 ch, .int .u64 sure] w (Made eSpot 33 (spotsB p.d ch sure) w) := by
  have hmk := fun W => spots46 p ch sure W
  have hco := fun W B1 B2 B3 (hW : Below w.heap.size w W) h1 h2 h3 => collect45 p ch sure B1 B2 B3 w W hp hb hs hW h1 h2 h3
  generalize spotsB p.d ch sure = SS at hco ⊢
  clear hp hb hs
  obtain ⟨pv, pn, ⟨ca, cc, cs⟩, ⟨la, lc, ls⟩, ⟨pa, pc, ps⟩⟩ := p
  dsimp only at *
  go_enter Tryz.func15, Tryz.ntmps15
  go_wp2_with fail
  refine (hmk _).mono ?_
  rintro e w1 ⟨rfl, rfl⟩
  dsimp only
  go_wp2_with fail
  have e1 : ∀ o : Obj, (w.alloc o).heap.size = w.heap.size + 1 := fun o => by simp
  refine (hco _ _ _ _ (balloc (balloc (balloc (b1 w _) _) _) _) (e1 _ ▸ heap3_0 (w.alloc _) _ _ _) (e1 _ ▸ heap3_1 (w.alloc _) _ _ _) (e1 _ ▸ heap3_2 (w.alloc _) _ _ _)).mono ?_
  rintro e w3 ⟨a', c', rfl, hs', ho', hb'⟩
  dsimp only
  go_wp2
  go_ret
  exact ⟨a', c', rfl, hs', own_weaken ho' (by simp; omega), bthen (balloc (balloc (balloc (b1 w _) _) _) _) hb'⟩
end Go.Proofs.YtdiamknibfamdaaGreat
/- chain.Length. -/
namespace Go.Proofs.YtdiamknibfamdaaGreat
open Go.RowKit Go.Shelf

def chanOf (p : Plan) (ch : Int) : Channel := p.channels.getD (ch - 1).toNat default
def lengthB (p : Plan) (ch sure : Int) : Int := if chainHasB p ch then addU (chanOf p ch).first (spotsB p ch sure).length else 0

/-- A channel that is there, in memory. -/
theorem chan_there {p : PlanR} {ch : Int} {w : World} (hp : p.Ok w) (h : chainHasB p.d ch = true) :
    ∃ (k : Nat) (c : ChannelR) (b off : Nat), ch = (k : Int) + 1 ∧ k < p.channels.xs.length ∧ p.channels.xs[k]? = some c ∧ p.channels.a = some ⟨b, off, none⟩ ∧ b < w.heap.size ∧ At eChannel w b (off + k * 9) c ∧ c.Ok w ∧ chanOf p.d ch = c.d ∧ mayB p.d = true := by
  obtain ⟨hh1, hmay⟩ : hasB p.d.channels.length ch = true ∧ mayB p.d = true := by simpa [chainHasB] using h
  obtain ⟨k, rfl⟩ : ∃ k : Nat, ch = (k : Int) + 1 := ⟨(ch - 1).toNat, by simp [hasB, fromB] at hh1; omega⟩
  have hkl : k < p.channels.xs.length := by simp [hasB, fromB, PlanR.d] at hh1; omega
  obtain ⟨b, off, c, ha, hy, hbk, hat, hok⟩ := hp.channels.get (j := k) hkl
  refine ⟨k, c, b, off, rfl, hkl, hy, ha, hbk, hat, hok, ?_, hmay⟩
  unfold chanOf
  rw [show ((k : Int) + 1 - 1).toNat = k by omega]
  simp [PlanR.d, List.getD, hy]

theorem wrap_u64 (x : Int) : IntKind.u64.wrap x = x % 18446744073709551616 := by
  unfold IntKind.wrap
  simp [IntKind.signed, IntKind.bits]

set_option maxHeartbeats 2000000 in
set_option maxRecDepth 100000 in
theorem length18 (p : PlanR) (ch sure : Int) (w : World) (hp : p.Ok w) (hb : PlanSmall p) (hs : U64 sure) : Calls Tryz.prog 18 #[p.v, .int .i64 ch, .int .u64 sure] w fun e w' => e = .returned (.int .u64 (lengthB p.d ch sure)) ∧ Below w.heap.size w w' := by
  have hhas := fun W (hW : Below w.heap.size w W) => has65 p ch W (hp.mono hW) hb
  have hall := fun W (hW : Below w.heap.size w W) => all15 p ch sure W (hp.mono hW) hb hs
  have e0 : lengthB p.d ch sure = if chainHasB p.d ch then addU (chanOf p.d ch).first (spotsB p.d ch sure).length else 0 := rfl
  cases hh : chainHasB p.d ch with
  | false =>
    simp only [hh] at hhas e0
    generalize lengthB p.d ch sure = r at e0 ⊢
    have E0 : Hid _ := e0
    clear e0 hall hp hb hs
    obtain ⟨pv, pn, ⟨ca, cc, cs⟩, ⟨la, lc, ls⟩, ⟨pa, pc, ps⟩⟩ := p
    go_enter Tryz.func18, Tryz.ntmps18
    go_wp2_with (go_at_call 65; refine (hhas _ (b1 _ _)).mono ?_; rintro e w' ⟨rfl, hb'⟩)
    go_ret
    exact ⟨ret_u64 (by rw [E0.out]; rfl), bthen (b1 _ _) hb'⟩
  | true =>
    obtain ⟨k, c, b, off, rfl, hkl, hy, ha, hbk, hat, hok, hco, hmay⟩ := chan_there hp hh
    have hcap := hp.channels.cap
    have hle := hp.channels.le
    have hcell := (at_channel hat).2.2.2.2.1
    have hk0 : (0 : Int) ≤ (k : Int) + 1 - 1 := by omega
    have hk2 : (k : Int) + 1 - 1 < (p.channels.xs.length : Int) := by omega
    have hk3 : ((k : Int) + 1 - 1).toNat = k := by omega
    have hw1 : IntKind.i64.wrap ((k : Int) + 1 - 1) = (k : Int) := by rw [wrap_i64 (by omega) (by omega)]; omega
    have hw2 : IntKind.i64.wrap (k : Int) = (k : Int) := wrap_i64 (by omega) (by omega)
    have hk5 : (0 : Int) ≤ (k : Int) := by omega
    have hk4 : (k : Int) < (p.channels.xs.length : Int) := by omega
    have hfi := hok.first
    simp only [hh] at hhas e0
    rw [hco] at e0
    generalize lengthB p.d ((k : Int) + 1) sure = r at e0 ⊢
    generalize spotsB p.d ((k : Int) + 1) sure = SS at e0 hall
    have E0 : Hid _ := e0
    clear e0 hp hb hs hat hok hy hh hco hmay
    obtain ⟨ep, ow, ic, re, fi, tr, ⟨ia, icp, is⟩, ⟨sa, sc, ss⟩, ⟨ua, uc, us⟩⟩ := c
    obtain ⟨pv, pn, ⟨ca, cc, cs⟩, ⟨la, lc, ls⟩, ⟨pa, pc, ps⟩⟩ := p
    dsimp only [PlanR.v] at *
    subst ha
    go_enter Tryz.func18, Tryz.ntmps18
    go_wp2_with fail
    refine (hhas _ (b1 _ _)).mono ?_
    rintro e w1 ⟨rfl, hb1⟩
    have hB1 := bthen (b1 w _) hb1
    obtain ⟨q0, q1, q2, q3, q4, r0, r1, r2, r3, r4⟩ := cells5 (box_mono (heap_top w _ _ rfl) hb1)
    have hz := box_lt (box_mono (heap_top w _ _ rfl) hb1)
    have n4 := (hB1.cell (p := ⟨b, off + k * 9 + 4, none⟩) hbk).trans hcell
    have HB1 : Aside _ := hB1
    clear hb1 hB1 hcell hhas
    dsimp only
    go_wp2_with fail
    have hSW : ∀ w', Below w1.heap.size w1 w' → w'.cell? ⟨w.heap.size, 0, none⟩ = some (.int .u64 pv) ∧ w'.cell? ⟨w.heap.size, 1, none⟩ = some (.int .u64 pn) ∧ w'.cell? ⟨w.heap.size, 2, none⟩ = some (.slice (some ⟨b, off, none⟩) cs.length cc) ∧ w'.cell? ⟨w.heap.size, 3, none⟩ = some (.slice la ls.length lc) ∧ w'.cell? ⟨w.heap.size, 4, none⟩ = some (.slice pa ps.length pc) ∧ w'.cell? ⟨b, off + k * 9 + 4, none⟩ = some (.int .u64 fi) := fun w' hW => ⟨(hW.cell (p := ⟨w.heap.size, 0, none⟩) hz).trans q0, (hW.cell (p := ⟨w.heap.size, 1, none⟩) hz).trans q1, (hW.cell (p := ⟨w.heap.size, 2, none⟩) hz).trans q2, (hW.cell (p := ⟨w.heap.size, 3, none⟩) hz).trans q3, (hW.cell (p := ⟨w.heap.size, 4, none⟩) hz).trans q4, (hW.cell (p := ⟨b, off + k * 9 + 4, none⟩) (blt HB1.out hbk)).trans n4⟩
    have hS0 := hSW _ (Below.refl _ w1).drew
    go_region_held3 (fun w' => w'.cell? ⟨w.heap.size, 0, none⟩ = some (.int .u64 pv) ∧ w'.cell? ⟨w.heap.size, 1, none⟩ = some (.int .u64 pn) ∧ w'.cell? ⟨w.heap.size, 2, none⟩ = some (.slice (some ⟨b, off, none⟩) cs.length cc) ∧ w'.cell? ⟨w.heap.size, 3, none⟩ = some (.slice la ls.length lc) ∧ w'.cell? ⟨w.heap.size, 4, none⟩ = some (.slice pa ps.length pc) ∧ w'.cell? ⟨b, off + k * 9 + 4, none⟩ = some (.int .u64 fi)) (first | (with_reducible exact hS3) | (with_reducible exact hS0)) (first | (go_at_call 15; (with_reducible refine (hall w1.drew ?_).mono ?_); exact bthen HB1.out (Below.refl _ _).drew; rintro x w3 ⟨a3, c3, rfl, hs3, ho3, hbb3⟩; have hB3 : Below w1.heap.size w1 w3 := bthen (Below.refl _ _).drew hbb3; have hS3 := hSW _ hB3))
    have HB3 : Aside _ := hB3
    clear hS3 hB3 hbb3 hS0 hSW hs3 ho3
    go_wp2
    go_ret
    refine ⟨ret_u64 ?_, bthen HB1.out HB3.out⟩
    rw [E0.out, wrap_u64, wrap_u64, if_pos trivial]
    show _ = (fi + (SS.length : Int)) % 18446744073709551616
    omega
end Go.Proofs.YtdiamknibfamdaaGreat
