/- chain.spots: an iterator over all entries that count. -/
import Derived.Test.YtdiamknibfamdaaGreatIter
namespace Go.Proofs.YtdiamknibfamdaaGreat
open Go.RowKit Go.Shelf
attribute [local go_sem] Oper.semAt_some

theorem ledgers69 (p : PlanR) (ch : Int) (w : World) : Calls Tryz.prog 69 #[p.v, .int .i64 ch] w fun e w' => e = .returned (.func (.func 112) #[] #[.pointer (some ⟨w.heap.size, 0, none⟩), .pointer (some ⟨w.heap.size + 1, 0, none⟩)]) ∧
    w' = (w.alloc (.cells #[.int .u64 p.version, .int .u64 p.next, .slice p.channels.a p.channels.xs.length p.channels.c, .slice p.ledgers.a p.ledgers.xs.length p.ledgers.c, .slice p.past.a p.past.xs.length p.past.c] 27 (0, 0))).alloc (.cells #[.int .i64 ch] 3 (0, 0)) := by
  obtain ⟨pv, pn, ⟨ca, cc, cs⟩, ⟨la, lc, ls⟩, ⟨pa, pc, ps⟩⟩ := p
  go_enter Tryz.func69, Tryz.ntmps69
  go_wp2
  go_ret
  exact ⟨rfl, rfl⟩
theorem spots46 (p : PlanR) (ch sure : Int) (w : World) : Calls Tryz.prog 46 #[p.v, .int .i64 ch, .int .u64 sure] w fun e w' => e = .returned (.func (.func 93) #[] #[.pointer (some ⟨w.heap.size, 0, none⟩), .pointer (some ⟨w.heap.size + 1, 0, none⟩), .pointer (some ⟨w.heap.size + 2, 0, none⟩)]) ∧
    w' = ((w.alloc (.cells #[.int .u64 p.version, .int .u64 p.next, .slice p.channels.a p.channels.xs.length p.channels.c, .slice p.ledgers.a p.ledgers.xs.length p.ledgers.c, .slice p.past.a p.past.xs.length p.past.c] 27 (0, 0))).alloc (.cells #[.int .i64 ch] 3 (0, 0))).alloc (.cells #[.int .u64 sure] 22 (0, 0)) := by
  obtain ⟨pv, pn, ⟨ca, cc, cs⟩, ⟨la, lc, ls⟩, ⟨pa, pc, ps⟩⟩ := p
  go_enter Tryz.func46, Tryz.ntmps46
  go_wp2
  go_ret
  exact ⟨rfl, rfl⟩

theorem roundIn_any {l l0 m m' : Nat} {P : Program} {f : FuncId} {tmps : Array Value} {a b : Code} {w : World} {R : Ending → World → Prop} (h : RoundIn Fence.wide m P l0 f tmps a b w R) : RoundIn (Fence.wide.inRound l) m' P l0 f tmps a b w R :=
  ⟨trivial, fun c cs _ => h.2 c cs (room_wide _)⟩

/-- How many entries of a ledger count. -/
def cntOf (sure cl la : Int) : Int := if cl = 0 then min sure 8 else la
def spotsAt (sure : Int) (x : Int × Ledger) : List Spot := (List.range (cntOf sure x.2.closed x.2.last).toNat).map fun i : Nat => ⟨addU x.1 i, x.2.id, addU i 1⟩
/-- All entries of a channel that count. -/
def spotsB (p : Plan) (ch sure : Int) : List Spot :=
  if chainHasB p ch then (seqL p.ledgers (p.channels.getD (ch - 1).toNat default).first (p.channels.getD (ch - 1).toNat default).ledgers).flatMap (spotsAt sure) else []

abbrev SX := { s : Spot // U64 s.offset ∧ U64 s.ledger ∧ U64 s.n }
def SX.encs (x : SX) : Array Value := #[x.1.v]
def SX.d (x : SX) : Spot := x.1
def sxOne {LS : List Ledger} (x : LX LS) (i : Nat) : SX := ⟨⟨addU x.1.1 i, x.1.2.id, addU i 1⟩, addU_u64 _ _, x.2.1.2.1, addU_u64 _ _⟩
def sxAt {LS : List Ledger} (sure : Int) (x : LX LS) : List SX := (List.range (cntOf sure x.1.2.closed x.1.2.last).toNat).map (sxOne x)
theorem sx_take {LS : List Ledger} (x : LX LS) (m i : Nat) (h : i < m) : ((List.range m).map (sxOne x)).take (i + 1) = ((List.range m).map (sxOne x)).take i ++ [sxOne x i] := by
  rw [List.take_add_one]
  simp [h]
theorem keepsFrom_less {B B' : Nat} {A C : World} (h : KeepsFrom B A C) (hB : B ≤ B') : KeepsFrom B' A C := ⟨h.size, fun k o hk ho hc => h.same k o (by omega) ho hc⟩
theorem sxAt_d {LS : List Ledger} (sure : Int) (x : LX LS) : (sxAt sure x).map SX.d = spotsAt sure x.d := by
  simp [sxAt, sxOne, SX.d, spotsAt, LX.d, LedgerR.d, Function.comp_def]
theorem sxAt_all {LS : List Ledger} (sure : Int) (xs : List (LX LS)) : (xs.flatMap (sxAt sure)).map SX.d = (xs.map LX.d).flatMap (spotsAt sure) := by
  induction xs with
  | nil => rfl
  | cons x t ih => rw [List.flatMap_cons, List.map_append, ih, sxAt_d]; rfl

theorem OwnFrom.less {β : Type} {B B' : Nat} {I : β → World → Prop} (h : OwnFrom B I) (hB : B ≤ B') : OwnFrom B' I := fun s W W' row hs hg hr => h s W W' row hs hg (fun r e => ⟨Nat.le_trans hB (hr r e).1, (hr r e).2⟩)
theorem kept_own {T : TypeId → Prop} {n0 B : Nat} {W0 : World} (hB : n0 ≤ B) {W W' : World} {row : Option Nat} (h : Kept T n0 W0 W) (hn : n0 ≤ W.heap.size) (hg : W.grownBy W' row) (hr : ∀ r, row = some r → B ≤ r ∧ ∃ o : Obj, W.heap[r]? = some o ∧ o.isCells = false) : Kept T n0 W0 W' :=
  h.trans ⟨⟨hg.os, hg.tape, hg.output, hg.size, fun k hk => hg.block k (by omega) (fun e => by have := (hr k e.symm).1; omega)⟩,
    fun k c t fr hk _ => (hg.block k (Array.getElem?_eq_some_iff.1 hk).1 (fun e => by obtain ⟨_, o, ho, hc⟩ := hr k e.symm; rw [hk] at ho; cases ho; cases hc)).trans hk⟩
/-- A block of cells lies as it lay. -/
theorem box_own {W W' : World} {row : Option Nat} {B k : Nat} {c : Array Value} {t : TypeId} {fr : Nat × Nat} (h : W.heap[k]? = some (Obj.cells c t fr)) (hg : W.grownBy W' row) (hr : ∀ r, row = some r → B ≤ r ∧ ∃ o : Obj, W.heap[r]? = some o ∧ o.isCells = false) : W'.heap[k]? = some (Obj.cells c t fr) :=
  (hg.block k (Array.getElem?_eq_some_iff.1 h).1 (fun e => by obtain ⟨_, o, ho, hc⟩ := hr k e.symm; rw [h] at ho; cases ho; cases hc)).trans h

theorem may_chan {p : Plan} (h : mayB p = true) {c : Channel} (hc : c ∈ p.channels) : channelB p.ledgers c = true := by
  unfold mayB at h
  simp only [Bool.and_eq_true, List.all_eq_true] at h
  exact h.1.1.2 c hc
theorem may_led {p : Plan} (h : mayB p = true) {l : Ledger} (hl : l ∈ p.ledgers) : mayLedgerB l = true ∧ l.id < p.next := by
  unfold mayB at h
  simp only [Bool.and_eq_true, List.all_eq_true, decide_eq_true_eq] at h
  exact h.1.1.1.1.1.2 l hl
theorem led_last {l : Ledger} (h : mayLedgerB l = true) : (l.closed = 0 ∧ l.last ≤ 0) ∨ (l.closed = 1 ∧ l.last ≤ 8) := by
  unfold mayLedgerB fromB at h
  simp only [Bool.and_eq_true, decide_eq_true_eq] at h
  omega
theorem may_bound {p : Plan} (h : mayB p = true) (sure : Int) (x : LX p.ledgers) : (sxAt sure x).length ≤ 8 := by
  obtain ⟨id, hx⟩ := x.2.2
  have hcl : x.1.2.closed = x.1.2.d.closed := rfl
  have hla : x.1.2.last = x.1.2.d.last := rfl
  have key : (x.1.2.closed = 0) ∨ x.1.2.last ≤ 8 := by
    rw [hcl, hla, hx]
    cases hf : findL p.ledgers id with
    | none => exact .inl rfl
    | some l =>
      have := led_last (may_led h (List.mem_of_find?_eq_some hf)).1
      show l.closed = 0 ∨ l.last ≤ 8
      omega
  rw [sxAt, List.length_map, List.length_range, cntOf]
  split <;> omega
theorem may_eight {p : Plan} (h : mayB p = true) {c : Channel} (hc : c ∈ p.channels) : c.ledgers.length ≤ 8 := by
  have := may_chan h hc
  unfold channelB at this
  simp only [Bool.and_eq_true, decide_eq_true_eq] at this
  exact this.1.1.1.1.1.1.1.1.2

set_option maxHeartbeats 4000000 in
set_option maxRecDepth 100000 in
theorem spots93 (T : TypeId → Prop) (h27 : T 27) (h22 : T 22) (h68 : T 68) (h104 : T 104) (n : Nat) (hn1 : 1 ≤ n) (p : PlanR) (ch sure : Int) (B1 B2 B3 : Nat) (w w0 : World) (hp : p.Ok w) (hb : PlanSmall p) (hs : U64 sure)
    (hw : Below w.heap.size w w0) (hB1 : w0.heap[B1]? = some (.cells #[.int .u64 p.version, .int .u64 p.next, .slice p.channels.a p.channels.xs.length p.channels.c, .slice p.ledgers.a p.ledgers.xs.length p.ledgers.c, .slice p.past.a p.past.xs.length p.past.c] 27 (0, 0)))
    (hB2 : w0.heap[B2]? = some (.cells #[.int .i64 ch] 3 (0, 0))) (hB3 : w0.heap[B3]? = some (.cells #[.int .u64 sure] 22 (0, 0))) :
    SeqOwn Fence.wide n Tryz.prog 93 #[.pointer (some ⟨B1, 0, none⟩), .pointer (some ⟨B2, 0, none⟩), .pointer (some ⟨B3, 0, none⟩)] SX.encs (Kept T w.heap.size)
      (fun xs => xs.map SX.d = spotsB p.d ch sure) (fun pre => pre.map SX.d <+: spotsB p.d ch sure) 64 w0 := by
  intro l J Jx W hW hW2 hJ hJx hY h0
  have HN : Hid _ := hn1
  clear hn1
  have hhas := fun W (hW : Below w.heap.size w W) => has65 p ch W (hp.mono hW) hb
  have hP := box_mono hB1 hW
  have hC := box_mono hB2 hW
  have hS := box_mono hB3 hW
  have hBW := hw.trans (hW.mono hw.size)
  cases hh : chainHasB p.d ch with
  | false =>
    have hsp : spotsB p.d ch sure = [] := by unfold spotsB; rw [hh]; rfl
    rw [hsp]
    simp only [hh] at hhas
    clear hb hp hJx hY hsp hh hB1 hB2 hB3
    obtain ⟨pv, pn, ⟨ca, cc, cs⟩, ⟨la, lc, ls⟩, ⟨pa, pc, ps⟩⟩ := p
    dsimp only at *
    obtain ⟨q0, q1, q2, q3, q4, r0, r1, r2, r3, r4⟩ := cells5 hP
    obtain ⟨z0, z1⟩ := cells1 hC
    have hl1 := box_lt hP
    have hl2 := box_lt hC
    refine callsIn_of_wp_marks Tryz.func93 rfl trivial ?_ rfl
    simp only [Tryz.ntmps93, List.size_toArray, List.length_cons, List.length_nil, Nat.reduceAdd, Nat.reduceSub, Array.replicate_succ, Array.replicate_zero, List.push_toArray, List.append_toArray, List.nil_append, List.cons_append]
    gi_wp2_with fail
    refine ⟨trivial, fun h => (by cases h), (callsIn_wide.2 (hhas _ (bthen hBW (b1 _ _)))).mono ?_⟩
    rintro x w3 ⟨rfl, hb3⟩
    have hJ3 : J [] w3 := hJ _ _ _ none h0 (grown_of_below (bthen (b1 _ _) hb3) _) (fun r h => by cases h)
    dsimp only
    gi_wp2
    exact ⟨_, results_none rfl _ _ _, ⟨_, rfl⟩, .inl ⟨[], rfl, hJ3⟩⟩
  | true =>
    obtain ⟨hh1, hmay⟩ : hasB p.d.channels.length ch = true ∧ mayB p.d = true := by simpa [chainHasB] using hh
    obtain ⟨k, rfl⟩ : ∃ k : Nat, ch = (k : Int) + 1 := ⟨(ch - 1).toNat, by simp [hasB, fromB] at hh1; omega⟩
    have hkl : k < p.channels.xs.length := by simp [hasB, fromB, PlanR.d] at hh1; omega
    have hc : p.channels.xs[k]? = some p.channels.xs[k] := List.getElem?_eq_getElem hkl
    generalize hcc : p.channels.xs[k] = c at hc
    have hgd : p.d.channels.getD ((k : Int) + 1 - 1).toNat default = c.d := by rw [show ((k : Int) + 1 - 1).toNat = k by omega]; simp [PlanR.d, List.getD, hc]
    have hsp : spotsB p.d ((k : Int) + 1) sure = (seqL p.d.ledgers c.first c.ledgers.xs).flatMap (spotsAt sure) := by unfold spotsB; rw [hh, if_pos rfl, hgd]; rfl
    rw [hsp]
    simp only [hh] at hhas
    have hled := fun W0 B1 B2 hW0 h1 h2 => ledgers112 T h27 h68 (n - 1) p k B1 B2 c w W0 hp hb hc hW0 h1 h2
    have hbnd : ∀ x : LX p.d.ledgers, (sxAt sure x).length ≤ 8 := may_bound hmay sure
    have hl8 : c.ledgers.xs.length ≤ 8 := may_eight hmay (show c.d ∈ p.d.channels from List.mem_map.2 ⟨c, List.mem_of_getElem? hc, rfl⟩)
    have hmk := fun W => ledgers69 p ((k : Int) + 1) W
    clear hsp hh hh1 hkl hc hcc hgd hmay hb hp hB1 hB2 hB3
    generalize p.d.ledgers = LS at hled hbnd ⊢
    generalize c.first = fi at hled ⊢
    generalize c.ledgers.xs = is at hled hl8 ⊢
    clear c
    obtain ⟨pv, pn, ⟨ca, cc, cs⟩, ⟨la, lc, ls⟩, ⟨pa, pc, ps⟩⟩ := p
    dsimp only at *
    obtain ⟨q0, q1, q2, q3, q4, r0, r1, r2, r3, r4⟩ := cells5 hP
    obtain ⟨z0, z1⟩ := cells1 hC
    obtain ⟨s0, s1⟩ := cells1 hS
    have hl1 := box_lt hP
    have hl2 := box_lt hC
    have hl3 := box_lt hS
    refine callsIn_of_wp_marks Tryz.func93 rfl trivial ?_ rfl
    simp only [Tryz.ntmps93, List.size_toArray, List.length_cons, List.length_nil, Nat.reduceAdd, Nat.reduceSub, Array.replicate_succ, Array.replicate_zero, List.push_toArray, List.append_toArray, List.nil_append, List.cons_append]
    gi_wp2_with fail
    refine ⟨trivial, fun h => (by cases h), (callsIn_wide.2 (hhas _ (bthen hBW (b1 _ _)))).mono ?_⟩
    rintro x w3 ⟨rfl, hb3⟩
    have hb3' := bthen (b1 W _) hb3
    have hP3 := box_mono hP hb3'
    have hC3 := box_mono hC hb3'
    have hS3 := box_mono hS hb3'
    have hY3 := box_mono (heap_top W _ _ rfl) hb3
    obtain ⟨q0, q1, q2, q3, q4, r0, r1, r2, r3, r4⟩ := cells5 hP3
    obtain ⟨z0, z1⟩ := cells1 hC3
    have HP3 : Aside _ := hP3
    have HC3 : Aside _ := hC3
    have HS3 : Aside _ := hS3
    have HY3 : Aside _ := hY3
    have HB3 : Aside _ := hb3'
    clear hb3 hb3' hP3 hC3 hS3 hY3 hhas
    dsimp only
    gi_wp2_with fail
    refine ⟨trivial, fun h => (by cases h), (callsIn_wide.2 (hmk w3)).mono ?_⟩
    rintro x w4 ⟨rfl, rfl⟩
    dsimp only
    gi_wp2_with fail
    have hW0a : ((w3.alloc (.cells #[.int .u64 pv, .int .u64 pn, .slice ca cs.length cc, .slice la ls.length lc, .slice pa ps.length pc] 27 (0, 0))).alloc (.cells #[.int .i64 ((k : Int) + 1)] 3 (0, 0))).heap[w3.heap.size]? = some (.cells #[.int .u64 pv, .int .u64 pn, .slice ca cs.length cc, .slice la ls.length lc, .slice pa ps.length pc] 27 (0, 0)) := heap2_0 w3 _ _
    have hW0b : ((w3.alloc (.cells #[.int .u64 pv, .int .u64 pn, .slice ca cs.length cc, .slice la ls.length lc, .slice pa ps.length pc] 27 (0, 0))).alloc (.cells #[.int .i64 ((k : Int) + 1)] 3 (0, 0))).heap[w3.heap.size + 1]? = some (.cells #[.int .i64 ((k : Int) + 1)] 3 (0, 0)) := heap2_1 w3 _ _
    have hb4 : Below w3.heap.size w3 ((w3.alloc (.cells #[.int .u64 pv, .int .u64 pn, .slice ca cs.length cc, .slice la ls.length lc, .slice pa ps.length pc] 27 (0, 0))).alloc (.cells #[.int .i64 ((k : Int) + 1)] 3 (0, 0))) := balloc (b1 _ _) _
    have hsz : ((w3.alloc (.cells #[.int .u64 pv, .int .u64 pn, .slice ca cs.length cc, .slice la ls.length lc, .slice pa ps.length pc] 27 (0, 0))).alloc (.cells #[.int .i64 ((k : Int) + 1)] 3 (0, 0))).heap.size = w3.heap.size + 2 := by simp
    obtain ⟨W0, hW0⟩ : ∃ W0, (w3.alloc (.cells #[.int .u64 pv, .int .u64 pn, .slice ca cs.length cc, .slice la ls.length lc, .slice pa ps.length pc] 27 (0, 0))).alloc (.cells #[.int .i64 ((k : Int) + 1)] 3 (0, 0)) = W0 := ⟨_, rfl⟩
    rw [hW0] at hW0a hW0b hb4 hsz ⊢
    clear hW0
    have hY0 := box_mono HY3.out hb4
    have hS0 := box_mono HS3.out hb4
    have hW3 := HB3.out.size
    have hn0 := hBW.size
    have hB0 := bthen (bthen hBW HB3.out) hb4
    have hJ0 : J [] W0 := hJ _ _ _ none h0 (grown_of_below (bthen HB3.out hb4) _) (fun r h => by cases h)
    have HJ : Aside _ := hJ
    have HJx : Aside _ := hJx
    have HY : Aside _ := hY
    clear hJ hJx hY h0 hb4 hP hC hS hmk
    refine wpIn_rangeFunc_ownH rfl HN.out (gf := 112) (lb := #[.pointer (some ⟨w3.heap.size, 0, none⟩), .pointer (some ⟨w3.heap.size + 1, 0, none⟩)]) rfl trivial (enters_of Tryz.func112 (by kernel_rfl) rfl)
      (hled W0 w3.heap.size (w3.heap.size + 1) hB0 hW0a hW0b) (fun h k => h.trans k) (fun W l o o' hl ho hc _ => Kept.putObj o' (by omega) ho hc) (Below.refl _ _) (fun _ => rfl)
      (fun pre W' => J (pre.flatMap (sxAt sure)) W' ∧ Kept T w.heap.size W0 W')
      (fun c pre W' => c = .ret ∧ ∃ q, Jx q W' ∧ q.map SX.d <+: (pre.flatMap (sxAt sure)).map SX.d)
      (fun s A B row hs hg hr => ⟨OwnFrom.less HJ.out (by omega) _ A B row hs.1 hg hr, kept_own (by omega) hs.2 (by have := hs.2.below.size; omega) hg hr⟩)
      (fun c s A B row hs hg hr => by obtain ⟨rfl, q, hq, hp⟩ := hs; exact ⟨rfl, q, OwnFrom.less HJx.out (by omega) _ A B row hq hg hr, hp⟩)
      ⟨hJ0, Kept.refl _ _ _⟩
      (fun x a' W' => ∃ Bx, W'.heap[Bx]? = some (.cells #[.int .u64 x.1.2.id, .int .i64 x.1.2.w, .int .i64 x.1.2.a, .slice x.1.2.frags.a x.1.2.frags.xs.length x.1.2.frags.c, .int .i64 x.1.2.closed, .int .u64 x.1.2.last] 68 (0, 0)) ∧ a' = { tmps := #[.func (.yield l) #[] #[], .pointer (some ⟨B1, 0, none⟩), .pointer (some ⟨B2, 0, none⟩), .pointer (some ⟨B3, 0, none⟩), .pointer (some ⟨W.heap.size, 0, none⟩), .int .u64 x.1.1, .pointer (some ⟨Bx, 0, none⟩), undef, undef, .agg #[.int .u64 pv, .int .u64 pn, .slice ca cs.length cc, .slice la ls.length lc, .slice pa ps.length pc], .int .i64 ((k : Int) + 1), .bool true, .bool false, .agg #[.int .u64 pv, .int .u64 pn, .slice ca cs.length cc, .slice la ls.length lc, .slice pa ps.length pc], .int .i64 ((k : Int) + 1), .func (.func 112) #[] #[.pointer (some ⟨w3.heap.size, 0, none⟩), .pointer (some ⟨w3.heap.size + 1, 0, none⟩)], .int .u64 x.1.1, x.1.2.v, undef, undef, undef, undef, undef, undef, undef, undef, undef, undef, undef, undef, undef, undef, undef, undef, undef, undef, undef, undef, undef, undef, undef], defers := [] })
      (fun x a' _ A B row hs hg hr => by obtain ⟨Bx, h1, h2⟩ := hs; exact ⟨Bx, box_own h1 hg hr, h2⟩)
      ?assign ?body ?done ?stop
    case assign =>
      rintro l' pre x Wc K ⟨hj, hk⟩ hK
      have hsc := hk.below.size
      dsimp only [LX.encs]
      gi_wp2
      exact hK _ _ ((KeepsOthers.alloc _ _).from _) (Kept.of_below (b1 _ _) (by omega)) ⟨HJ.out _ _ _ none hj (grown_of_below (b1 _ _) _) (fun r h => by cases h), hk.trans (Kept.of_below (b1 _ _) (by omega))⟩ ⟨Wc.heap.size, heap_top _ _ _ rfl, rfl⟩
    case body =>
      rintro l' pre x a' Wc hl ⟨r, hr⟩ ⟨hj, hk⟩ ⟨Bx, hbx, rfl⟩ hlen
      obtain ⟨d0, d1, d2, d3, d4, d5, g0, g1, g2, g3, g4, g5⟩ := cells6 hbx
      have hsb := hk.types _ _ _ _ hS0 h22
      obtain ⟨s0, s1⟩ := cells1 hsb
      have hfl : (pre.flatMap (sxAt sure)).length ≤ 8 * pre.length := by
        clear hj hk
        induction pre with
        | nil => simp
        | cons y t ih => simp only [List.flatMap_cons, List.length_append, List.length_cons]; have := hbnd y; have := ih (by simp at hlen; omega); omega
      have hyc := hk.types _ _ _ _ hY0 h104
      have hlast : U64 x.1.2.last := x.2.1.2.2.2
      by_cases hc0 : x.1.2.closed = 0
      · gi_wp2
        have hcnt : cntOf sure x.1.2.closed x.1.2.last = min sure 8 := by rw [cntOf, if_pos hc0]
        have hm0 : 0 ≤ min sure 8 ∧ min sure 8 < 18446744073709551616 := by have := hs.1; have := hs.2; omega
        generalize min sure 8 = m at hcnt hm0 ⊢
        have hsx : sxAt sure x = (List.range (m).toNat).map (sxOne x) := by rw [sxAt, hcnt]
        have hM8 : (m).toNat ≤ 8 := by have := hbnd x; rw [hsx] at this; simpa using this
        gi_loopw [26] (fun s26 wr => ∃ i : Nat, (i : Int) ≤ m ∧ s26 = .int .u64 i ∧ Aside (J (pre.flatMap (sxAt sure) ++ ((List.range (m).toNat).map (sxOne x)).take i) wr ∧ Kept T w.heap.size Wc wr ∧ KeepsFrom W0.heap.size Wc wr)) (fun s26 _ => (m).toNat - (intOf s26).toNat)
        case atStart => exact ⟨0, by omega, rfl, by simpa using hj, Kept.refl _ _ _, KeepsFrom.refl _ _⟩
        case round =>
          obtain ⟨i, hi, rfl, A⟩ := hrel
          have hbr := A.out.2.1.types _ _ _ _ hbx h68
          have hyr := A.out.2.1.types _ _ _ _ hyc h104
          obtain ⟨e0, e1, e2, e3, e4, e5, k0, k1, k2, k3, k4, k5⟩ := cells6 hbr
          obtain ⟨y0, y1⟩ := cells1 hyr
          have hl4 := box_lt hbr
          have hl5 := box_lt hyr
          clear hbr hyr
          by_cases hlt : (i : Int) < m
          · have hlt2 : i < (m).toNat := by omega
            have hadd : addU (i : Int) 1 = (i : Int) + 1 := by unfold addU; omega
            obtain ⟨fn, tmps, assign, body, hy, hR⟩ := HY.out _ (sxOne x i) wr A.out.1 (by rw [List.length_append, List.length_take]; omega)
            dsimp only [SX.encs, sxOne, Spot.v] at hy
            rw [hadd] at hy
            have hm1 : IntKind.u64.wrap (x.1.1 + i) = addU x.1.1 i := wrap_addU _ _
            have hst := sx_take x (m).toNat i hlt2
            have HST : Hid _ := hst
            have HR : Aside _ := hR
            clear hst hR
            gi_wp2_with fail
            refine ⟨fun h => (by cases h), (roundIn_any HR.out).mono ?_⟩
            rintro e W5 (⟨rfl, hJ5, hk5, hkf5⟩ | ⟨rfl, hJx5, hkf5⟩)
            · dsimp only
              clear hy HR
              gi_wp2
              go_roundw
              case rel => exact ⟨i + 1, by omega, by go_num, by rw [HST.out, ← List.append_assoc]; exact hJ5, A.out.2.1.trans hk5, A.out.2.2.trans (keepsFrom_less hkf5 (by omega))⟩
              case measure => simp [intOf]; omega
            · dsimp only
              clear hy HR
              gi_wp2
              refine ⟨A.out.2.2.trans (keepsFrom_less hkf5 (by omega)), rfl, _, hJx5, ?_⟩
              rw [List.append_assoc, ← HST.out, List.flatMap_append, List.map_append, List.map_append, List.flatMap_singleton, hsx]
              exact (List.prefix_append_right_inj _).2 ((List.take_prefix _ _).map _)
          · have hge : i = (m).toNat := by omega
            gi_wp2
            refine ⟨keepsFrom_less A.out.2.2 (by omega), A.out.2.1, ?_, hk.trans A.out.2.1⟩
            have h9 := A.out.1
            rw [hge, List.take_of_length_le (by simp), ← hsx] at h9
            rw [List.flatMap_append, List.flatMap_singleton]
            exact h9
      · gi_wp2
        have hcnt : cntOf sure x.1.2.closed x.1.2.last = x.1.2.last := by rw [cntOf, if_neg hc0]
        have hm0 : 0 ≤ x.1.2.last ∧ x.1.2.last < 18446744073709551616 := hlast
        have hcb : (x.1.2.closed == 0) = false := by simpa using hc0
        simp only [hcb]
        have hsx : sxAt sure x = (List.range (x.1.2.last).toNat).map (sxOne x) := by rw [sxAt, hcnt]
        have hM8 : (x.1.2.last).toNat ≤ 8 := by have := hbnd x; rw [hsx] at this; simpa using this
        gi_loopw [26] (fun s26 wr => ∃ i : Nat, (i : Int) ≤ x.1.2.last ∧ s26 = .int .u64 i ∧ Aside (J (pre.flatMap (sxAt sure) ++ ((List.range (x.1.2.last).toNat).map (sxOne x)).take i) wr ∧ Kept T w.heap.size Wc wr ∧ KeepsFrom W0.heap.size Wc wr)) (fun s26 _ => (x.1.2.last).toNat - (intOf s26).toNat)
        case atStart => exact ⟨0, by omega, rfl, by simpa using hj, Kept.refl _ _ _, KeepsFrom.refl _ _⟩
        case round =>
          obtain ⟨i, hi, rfl, A⟩ := hrel
          have hbr := A.out.2.1.types _ _ _ _ hbx h68
          have hyr := A.out.2.1.types _ _ _ _ hyc h104
          obtain ⟨e0, e1, e2, e3, e4, e5, k0, k1, k2, k3, k4, k5⟩ := cells6 hbr
          obtain ⟨y0, y1⟩ := cells1 hyr
          have hl4 := box_lt hbr
          have hl5 := box_lt hyr
          clear hbr hyr
          by_cases hlt : (i : Int) < x.1.2.last
          · have hlt2 : i < (x.1.2.last).toNat := by omega
            have hadd : addU (i : Int) 1 = (i : Int) + 1 := by unfold addU; omega
            obtain ⟨fn, tmps, assign, body, hy, hR⟩ := HY.out _ (sxOne x i) wr A.out.1 (by rw [List.length_append, List.length_take]; omega)
            dsimp only [SX.encs, sxOne, Spot.v] at hy
            rw [hadd] at hy
            have hm1 : IntKind.u64.wrap (x.1.1 + i) = addU x.1.1 i := wrap_addU _ _
            have hst := sx_take x (x.1.2.last).toNat i hlt2
            have HST : Hid _ := hst
            have HR : Aside _ := hR
            clear hst hR
            gi_wp2_with fail
            refine ⟨fun h => (by cases h), (roundIn_any HR.out).mono ?_⟩
            rintro e W5 (⟨rfl, hJ5, hk5, hkf5⟩ | ⟨rfl, hJx5, hkf5⟩)
            · dsimp only
              clear hy HR
              gi_wp2
              go_roundw
              case rel => exact ⟨i + 1, by omega, by go_num, by rw [HST.out, ← List.append_assoc]; exact hJ5, A.out.2.1.trans hk5, A.out.2.2.trans (keepsFrom_less hkf5 (by omega))⟩
              case measure => simp [intOf]; omega
            · dsimp only
              clear hy HR
              gi_wp2
              refine ⟨A.out.2.2.trans (keepsFrom_less hkf5 (by omega)), rfl, _, hJx5, ?_⟩
              rw [List.append_assoc, ← HST.out, List.flatMap_append, List.map_append, List.map_append, List.flatMap_singleton, hsx]
              exact (List.prefix_append_right_inj _).2 ((List.take_prefix _ _).map _)
          · have hge : i = (x.1.2.last).toNat := by omega
            gi_wp2
            refine ⟨keepsFrom_less A.out.2.2 (by omega), A.out.2.1, ?_, hk.trans A.out.2.1⟩
            have h9 := A.out.1
            rw [hge, List.take_of_length_le (by simp), ← hsx] at h9
            rw [List.flatMap_append, List.flatMap_singleton]
            exact h9
    case done =>
      rintro D xs W' hD hS ⟨hj, hk⟩ hDd
      gi_wp2
      refine ⟨by simp, .inl ⟨_, _, rfl, run_takeDeferred hDd, ?_⟩⟩
      exact ⟨_, results_none rfl _ _ _, ⟨_, rfl⟩, .inl ⟨xs.flatMap (sxAt sure), by rw [sxAt_all, hS], OwnFrom.putObj HJ.out _ hj (by omega) hDd rfl⟩⟩
    case stop =>
      rintro D c pre W' hD hSp ⟨rfl, q, hq, hp⟩ hDd
      have hp2 : q.map SX.d <+: (seqL LS fi is).flatMap (spotsAt sure) := by
        refine hp.trans ?_
        rw [sxAt_all]
        obtain ⟨t, ht⟩ := hSp
        rw [← ht, List.flatMap_append]
        exact ⟨_, rfl⟩
      gi_wp2
      refine ⟨by simp, .inl ⟨_, _, rfl, run_takeDeferred hDd, ?_⟩⟩
      exact ⟨_, results_none rfl _ _ _, ⟨_, rfl⟩, .inr ⟨q, hp2, OwnFrom.putObj HJx.out _ hq (by omega) hDd rfl⟩⟩
end Go.Proofs.YtdiamknibfamdaaGreat
