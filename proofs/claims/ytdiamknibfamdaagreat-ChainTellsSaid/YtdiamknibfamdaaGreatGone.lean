/- Regions that draw their order, within a round. -/
import Derived.Test.YtdiamknibfamdaaGreatRng
import Derived.Sort.QuietThIn
import Derived.OrdersHeld
import Derived.Deep.AppendLies
import Derived.Test.YtdiamknibfamdaaGreatPlC
import Derived.Sort.QuietIn
import Derived.Stop.RegionWithIn
namespace Go.Proofs.YtdiamknibfamdaaGreat
open Go.RowKit

variable {F : Fence} {n l : Nat} {P : Program} {ops : Array Oper} {Q : Exit → Act → World → Prop} {md : Region.Mode}

theorem opIn_round {o : Oper} {a : Act} {w : World} {K : Act → World → Prop} (hd : ∀ c, o.op ≠ .defer c) (h : o.wpIn F n P a w K Q) : o.wpIn (F.inRound l) n P a w K Q := by
  unfold Oper.wpIn at h ⊢
  rw [Oper.semAt_eq _ _ _ hd] at h ⊢
  exact h
/-- Of operations none of which is a defer statement, what holds outside a round holds within one. -/
theorem anyIn_round (hd : ∀ (i : Nat) (o : Oper), ops[i]? = some o → ∀ c, o.op ≠ .defer c) :
    ∀ (fuel : Nat) (listed : Array Bool) (a : Act) (w : World), wpAnyIn F n P md ops Q fuel listed a w → wpAnyIn (F.inRound l) n P md ops Q fuel listed a w := by
  intro fuel
  induction fuel with
  | zero => exact fun _ _ _ h => h
  | succ k ih =>
    intro listed a w h
    refine ⟨h.1, fun i hi => ?_⟩
    have h2 := h.2 i hi
    unfold wpOpIn at h2 ⊢
    cases ho : ops[i]? with
    | none => rw [ho] at h2; exact ih _ _ _ h2
    | some o =>
      rw [ho] at h2
      dsimp only at h2 ⊢
      split at h2
      · rename_i hw
        rw [if_pos hw]
        exact opIn_round (hd i o ho) (Oper.wpIn_mono (fun a w h => ih _ _ _ h) h2)
      · rename_i hw
        rw [if_neg hw]
        exact ⟨h2.1, ih _ _ _ h2.2⟩
def noDefer (ls : List Oper) : Bool := ls.all fun o => match o.op with | .defer _ => false | _ => true
theorem noDefer_of {ls : List Oper} (h : noDefer ls = true) (i : Nat) (o : Oper) (ho : ls.toArray[i]? = some o) (c : Call) : o.op ≠ .defer c := by
  intro hc
  have hm : o ∈ ls := by
    rw [List.getElem?_toArray] at ho
    exact List.mem_of_getElem? ho
  have := List.all_eq_true.1 h o hm
  rw [hc] at this
  cases this
/-- A region that only reads, within a round. -/
theorem region_quiet_round {C : World → Prop} {id : Nat} {a : Act} {w : World} {ls : List Oper} (hro : F.round = none) (hd : noDefer ls = true) (hm : P.follows .mixedOrders = true) (hB : Region.lexB .any ls.toArray = true) (hC : C { w with drawn := w.drawn + 1 })
    (h : wpQuietIn F n P ls.toArray C (fun a' => ∀ w', C w' → Q .normal a' w') ls a) : (Code.region id ls.toArray true).wpIn (F.inRound l) n P Q a w := by
  simp only [Region.lexB, Bool.and_eq_true] at hB
  refine wpIn_region_any hm (anyIn_round (noDefer_of hd) _ _ _ _ (wpAnyIn_of_quiet (Q := fun a' => ∀ w', C w' → Q .normal a' w') hro (fun _ w' hw' h => h w' hw') _ _ _ _ hC ?_))
  have := wpAnyQIn_lex (F := F) (n := n) (C := C) (md := .any) hB.1 ls 0 (Array.replicate ls.toArray.size false) a (by simp) (by simpa using hB.2) h
  simpa using this
end Go.Proofs.YtdiamknibfamdaaGreat
/- A region that draws its order, within a round of the wide fence, walked as a plain one. -/
namespace Go.Proofs.YtdiamknibfamdaaGreat
open Go.RowKit

variable {n l : Nat} {P : Program} {ops : Array Oper} {Q : Exit → Act → World → Prop} {md : Region.Mode}

theorem rowsIn_wide {row : String} {args : Array Value} {w : World} {R : Value → World → Prop} (h : Rows P row args w R) : RowsIn Fence.wide n P row args w R :=
  fun c cs _ => let ⟨v, w', r, s⟩ := h c cs; ⟨v, w', r, stepsIn_wide.2 s⟩

theorem opIn_plain {o : Oper} {a : Act} {w : World} {K : Act → World → Prop} (hd : ∀ c, o.op ≠ .defer c) (h : o.wp P a w K Q) : o.wpIn (Fence.wide.inRound l) n P a w K Q := by
  unfold Oper.wp at h
  unfold Oper.wpIn
  rw [Oper.semAt_eq _ _ _ hd]
  refine ⟨fun _ _ => trivial, ?_⟩
  generalize (execOp a.eval o).run P w = r at h ⊢
  cases r with
  | ok x w' =>
    cases x with
    | value v => exact h
    | skip => exact h
    | defer d => exact h
    | enter f args => exact ⟨(fun hx => by cases hx), CallsIn.inRound l ((callsIn_wide.2 h).mono (fun e w'' he => by cases e <;> exact he))⟩
    | row row args => exact ⟨(fun hx => by cases hx), (rowsIn_wide h : RowsIn Fence.wide (n - 1) P row args w' _)⟩
    | _ => exact h.elim
  | halt x w' => cases x <;> exact h

theorem anyIn_plain (hd : ∀ (i : Nat) (o : Oper), ops[i]? = some o → ∀ c, o.op ≠ .defer c) (hQ : ∀ a w, ¬ Q .outgrown a w) :
    ∀ (fuel : Nat) (listed : Array Bool) (a : Act) (w : World), wpAny P md ops Q fuel listed a w → wpAnyIn (Fence.wide.inRound l) n P md ops Q fuel listed a w := by
  intro fuel
  induction fuel with
  | zero => exact fun _ _ _ h => h
  | succ k ih =>
    intro listed a w h
    refine ⟨h.1, fun i hi => ?_⟩
    have h2 := h.2 i hi
    unfold wpOp at h2
    unfold wpOpIn
    cases ho : ops[i]? with
    | none => rw [ho] at h2; exact ih _ _ _ h2
    | some o =>
      rw [ho] at h2
      dsimp only at h2 ⊢
      split at h2
      · rename_i hw
        rw [if_pos hw]
        rcases h2 with h2 | ⟨_, a', w', hl⟩
        · exact Oper.wpIn_mono (fun a w h => ih _ _ _ h) (opIn_plain (hd i o ho) h2)
        · exact absurd hl (hQ a' w')
      · rename_i hw
        rw [if_neg hw]
        exact ⟨fun _ _ => trivial, ih _ _ _ h2⟩

/-- The region's begin: the walk goes on under a condition on the world, as of a plain region. -/
theorem region_held_round {S : World → Prop} {id : Nat} {a : Act} {w : World} {ls : List Oper} (hd : noDefer ls = true) (hm : P.follows .mixedOrders = true) (hQ : ∀ a w, ¬ Q .outgrown a w)
    (h : wpAnyH P .any ls.toArray Q S ls.toArray.size (Array.replicate ls.toArray.size false) a w.drew) : (Code.region id ls.toArray true).wpIn (Fence.wide.inRound l) n P Q a w :=
  wpIn_region_any hm (anyIn_plain (noDefer_of hd) hQ _ _ _ _ (wpAny_of_held _ _ _ _ h))

/-- An operation is carried out: it leaves a value, or none. -/
theorem wpOp_value {i : Nat} {o : Oper} {v : Value} {a : Act} {w w' : World} {K : Act → World → Prop} (ho : ops[i]? = some o) (hw : Region.wanted o (yielded ops a.tmps) = true) (hr : (execOp a.eval o).run P w = .ok (.value v) w') (h : K (a.put o.dst v) w') : wpOp P ops Q i K a w := by
  unfold wpOp
  rw [ho]
  dsimp only
  rw [if_pos hw]
  refine .inl ?_
  unfold Oper.wp
  rw [hr]
  exact h
theorem wpOp_skip {i : Nat} {o : Oper} {a : Act} {w w' : World} {K : Act → World → Prop} (ho : ops[i]? = some o) (hw : Region.wanted o (yielded ops a.tmps) = true) (hr : (execOp a.eval o).run P w = .ok .skip w') (h : K (a.put o.dst undef) w') : wpOp P ops Q i K a w := by
  unfold wpOp
  rw [ho]
  dsimp only
  rw [if_pos hw]
  refine .inl ?_
  unfold Oper.wp
  rw [hr]
  exact h
theorem wpOp_by {i : Nat} {o : Oper} {a : Act} {w : World} {K : Act → World → Prop} (ho : ops[i]? = some o) (h : if Region.wanted o (yielded ops a.tmps) = true then o.wp P a w K Q else False) : wpOp P ops Q i K a w := by
  unfold wpOp
  rw [ho]
  dsimp only
  split at h
  · rename_i hw
    rw [if_pos hw]
    exact .inl h
  · exact h.elim
end Go.Proofs.YtdiamknibfamdaaGreat
/- chain.Gone. -/
namespace Go.Proofs.YtdiamknibfamdaaGreat
open Go.RowKit Go.Shelf
attribute [local go_sem] Oper.semAt_some

/-- What is gone of ledgers, which comes next, and where it begins. -/
def goneL (trim : Int) : List (Int × Ledger) → List Int → Int → List Int × Int × Int
  | [], gone, first => (gone, 0, first)
  | (e, l) :: t, gone, first => if l.closed = 0 ∨ trim < addU e l.last then (gone, l.id, first) else goneL trim t (gone ++ [l.id]) (addU e l.last)
def goneB (p : Plan) (ch : Int) : List Int × Int × Int :=
  if chainHasB p ch then goneL (chanOf p ch).trim (seqL p.ledgers (chanOf p ch).first (chanOf p ch).ledgers) [] (chanOf p ch).first else ([], 0, 0)
def GoneMade (r : List Int × Int × Int) (w : World) (e : Ending) (w' : World) : Prop :=
  ∃ a c, e = .returned (.tuple #[.slice a r.1.length c, .int .u64 r.2.1, .int .u64 r.2.2]) ∧ SlOk eU64 w' ⟨a, c, r.1⟩ ∧ Below w.heap.size w w'

theorem heap5_0 (w : World) (A B C D E : Obj) : (((((w.alloc A).alloc B).alloc C).alloc D).alloc E).heap[w.heap.size]? = some A := by rw [heap_get, if_neg (by simp; omega), heap4_0]
theorem heap5_1 (w : World) (A B C D E : Obj) : (((((w.alloc A).alloc B).alloc C).alloc D).alloc E).heap[w.heap.size + 1]? = some B := by rw [heap_get, if_neg (by simp; try omega), heap4_1]
theorem heap5_2 (w : World) (A B C D E : Obj) : (((((w.alloc A).alloc B).alloc C).alloc D).alloc E).heap[w.heap.size + 1 + 1]? = some C := by rw [heap_get, if_neg (by simp; try omega), heap4_2]
theorem heap5_3 (w : World) (A B C D E : Obj) : (((((w.alloc A).alloc B).alloc C).alloc D).alloc E).heap[w.heap.size + 1 + 1 + 1]? = some D := by rw [heap_get, if_neg (by simp), heap4_3]
theorem heap5_4 (w : World) (A B C D E : Obj) : (((((w.alloc A).alloc B).alloc C).alloc D).alloc E).heap[w.heap.size + 1 + 1 + 1 + 1]? = some E := by rw [heap_get, if_pos (by simp)]

theorem box_ne {W : World} {B B' : Nat} {c c' : Array Value} {t t' : TypeId} {fr fr' : Nat × Nat} (h : W.heap[B]? = some (Obj.cells c t fr)) (h' : W.heap[B']? = some (Obj.cells c' t' fr')) (hne : t ≠ t') : B ≠ B' := by
  rintro rfl
  rw [h] at h'
  cases h'
  exact hne rfl
theorem box1_set (W : World) (B : Nat) (v : Value) {u : Value} {t : TypeId} {fr : Nat × Nat} (h : W.heap[B]? = some (Obj.cells #[u] t fr)) : (W.setCell ⟨B, 0, none⟩ v).heap[B]? = some (Obj.cells #[v] t fr) := heap_setSame W B 0 v h
theorem far_keeps {lo hi B : Nat} {A C : World} (h : Far lo hi A C) (hB : hi ≤ B) : KeepsFrom B A C := ⟨Nat.le_of_eq h.size.symm, fun k o hk ho _ => (h.block k (.inr (by omega))).trans ho⟩
theorem far_kept {T : TypeId → Prop} {lo hi n0 : Nat} {A C : World} (h : Far lo hi A C) (hn : n0 ≤ lo) (ht : ∀ k, lo ≤ k → k < hi → ∃ c t, A.heap[k]? = some (Obj.cells c t (0, 0)) ∧ ¬ T t) : Kept T n0 A C :=
  ⟨h.below (Below.refl _ _) hn, fun k c t fr hk hT => by
    by_cases h1 : lo ≤ k ∧ k < hi
    · obtain ⟨c', t', h2, h3⟩ := ht k h1.1 h1.2
      rw [hk] at h2
      cases h2
      exact absurd hT h3
    · exact (h.block k (by omega)).trans hk⟩
theorem far_drewN (lo hi m : Nat) (W : World) : Far lo hi W (W.drewN m) := ⟨rfl, rfl, rfl, rfl, fun _ _ => rfl⟩
theorem far_drew {lo hi : Nat} {W W' : World} (h : Far lo hi W W') : Far lo hi W W'.drew := ⟨h.os, h.tape, h.output, h.size, h.block⟩
theorem gone_stored {W : World} {G m : Nat} {u1 u2 u3 : Value} (v1 v2 v3 : Value) (hG : Boxed W G 38 u1) (hN : Boxed W (G + 1) 22 u2) (hF : Boxed W (G + 1 + 1) 22 u3) :
    (Exit.normal : Exit) = .normal ∧ Far G (G + 1 + 1 + 1) W ((((W.drewN m).setCell ⟨G, 0, none⟩ v1).setCell ⟨G + 1, 0, none⟩ v2).setCell ⟨G + 1 + 1, 0, none⟩ v3) ∧
      Boxed ((((W.drewN m).setCell ⟨G, 0, none⟩ v1).setCell ⟨G + 1, 0, none⟩ v2).setCell ⟨G + 1 + 1, 0, none⟩ v3) G 38 v1 ∧
      Boxed ((((W.drewN m).setCell ⟨G, 0, none⟩ v1).setCell ⟨G + 1, 0, none⟩ v2).setCell ⟨G + 1 + 1, 0, none⟩ v3) (G + 1) 22 v2 ∧
      Boxed ((((W.drewN m).setCell ⟨G, 0, none⟩ v1).setCell ⟨G + 1, 0, none⟩ v2).setCell ⟨G + 1 + 1, 0, none⟩ v3) (G + 1 + 1) 22 v3 :=
  ⟨rfl, far_set (far_set (far_set (far_drewN _ _ _ _) ⟨by simp, by simp; omega⟩) ⟨by simp, by simp⟩) ⟨by simp; omega, by simp⟩,
    heap_setOther _ _ _ _ _ (by omega) (heap_setOther _ _ _ _ _ (by omega) (box1_set _ _ _ (show (W.drewN m).heap[G]? = _ from hG))),
    heap_setOther _ _ _ _ _ (by omega) (box1_set _ _ _ (heap_setOther _ _ _ _ _ (by omega) (show (W.drewN m).heap[G + 1]? = _ from hN))),
    box1_set _ _ _ (heap_setOther _ _ _ _ _ (by omega) (heap_setOther _ _ _ _ _ (by omega) (show (W.drewN m).heap[G + 1 + 1]? = _ from hF)))⟩
abbrev GoneT (t : TypeId) : Prop := t = 27 ∨ t = 3 ∨ t = 68

/-- Behind a round of Gone that goes on: one more is gone. -/
def GoneNext (n0 base G k : Nat) (xs : List Value) (id : Int) (nx : Value) (f : Int) (W w' : World) : Prop :=
  ∃ v', Boxed w' G 38 v' ∧ Boxed w' (G + 1) 22 nx ∧ Boxed w' (G + 1 + 1) 22 (.int .u64 f) ∧ w'.ownsRow base 22 1 v' (k + 1) (xs ++ [.int .u64 id]) ∧ KeepsOthers W w' ∧ Kept GoneT n0 W w'
theorem row_block {w : World} {base : Nat} {e : TypeId} {size k : Nat} {v : Value} {xs : List Value} (h : w.ownsRow base e size v k xs) {g : Nat} (hg : v.ownBlock = some g) : base ≤ g := by
  obtain ⟨_, ⟨rfl, _⟩ | ⟨g', cap, cur, rfl, hb, _⟩⟩ := h
  · cases hg
  · cases hg; exact hb
theorem grown_box {W w1 : World} {base : Nat} {e : TypeId} {size k : Nat} {v : Value} {xs : List Value} {tmp : Obj} (hrow : W.ownsRow base e size v k xs) (hgrow : (W.alloc tmp).grownBy w1 v.ownBlock) {i : Nat} {c : Array Value} {t : TypeId} {fr : Nat × Nat} (hi : W.heap[i]? = some (.cells c t fr)) (ht : t ≠ e ∨ i < base) : w1.heap[i]? = some (.cells c t fr) := by
  have hlt := (Array.getElem?_eq_some_iff.1 hi).1
  rw [hgrow.block i (by simp; omega) (fun ej => ?_)]
  · exact (Below.heap_alloc _ _ _ hlt).trans hi
  · have h1 := row_block hrow ej.symm
    rcases ht with ht | ht
    · rcases hrow.2 with ⟨rfl, _⟩ | ⟨g, cap, cur, rfl, _, hgb, _⟩
      · cases ej
      · cases ej
        rw [hi] at hgb
        cases hgb
        exact ht rfl
    · omega
theorem row_own {W W' : World} {row : Option Nat} {B base : Nat} {e : TypeId} {size k : Nat} {v : Value} {xs : List Value} (h : W.ownsRow base e size v k xs) (hg : W.grownBy W' row) (hr : ∀ r, row = some r → B ≤ r ∧ ∃ o : Obj, W.heap[r]? = some o ∧ o.isCells = false) : W'.ownsRow base e size v k xs := by
  obtain ⟨h1, h2 | ⟨g, cap, cur, hv, hb, hh, r⟩⟩ := h
  · exact ⟨h1, .inl h2⟩
  · exact ⟨h1, .inr ⟨g, cap, cur, hv, hb, box_own hh hg hr, r⟩⟩
theorem gone_stored1 {W : World} {G : Nat} {u1 u2 u3 : Value} (v1 v2 v3 : Value) (hG : Boxed W G 38 u1) (hN : Boxed W (G + 1) 22 u2) (hF : Boxed W (G + 1 + 1) 22 u3) :
    Far G (G + 1 + 1 + 1) W (((W.setCell ⟨G, 0, none⟩ v1).setCell ⟨G + 1, 0, none⟩ v2).setCell ⟨G + 1 + 1, 0, none⟩ v3).drew ∧
      Boxed (((W.setCell ⟨G, 0, none⟩ v1).setCell ⟨G + 1, 0, none⟩ v2).setCell ⟨G + 1 + 1, 0, none⟩ v3).drew G 38 v1 ∧
      Boxed (((W.setCell ⟨G, 0, none⟩ v1).setCell ⟨G + 1, 0, none⟩ v2).setCell ⟨G + 1 + 1, 0, none⟩ v3).drew (G + 1) 22 v2 ∧
      Boxed (((W.setCell ⟨G, 0, none⟩ v1).setCell ⟨G + 1, 0, none⟩ v2).setCell ⟨G + 1 + 1, 0, none⟩ v3).drew (G + 1 + 1) 22 v3 := by
  obtain ⟨_, h1, h2, h3, h4⟩ := gone_stored (m := 0) v1 v2 v3 hG hN hF
  exact ⟨far_drew h1, h2, h3, h4⟩
theorem gone_since {n0 base G k : Nat} {xs : List Value} {id : Int} {nx : Value} {f : Int} {A W w' : World} (h1 : KeepsOthers A W) (h2 : Kept GoneT n0 A W) (h : GoneNext n0 base G k xs id nx f W w') : GoneNext n0 base G k xs id nx f A w' := by
  obtain ⟨v', y1, y2, y3, y4, y5, y6⟩ := h
  exact ⟨v', y1, y2, y3, y4, h1.trans y5, h2.trans y6⟩
theorem gone_next {n0 base G k : Nat} {W w1 : World} {v v' : Value} {xs : List Value} {id f : Int} {nx y : Value} (h0 : n0 ≤ G) (hb : G + 1 + 1 < base) (hbW : base ≤ W.heap.size) (hG : Boxed W G 38 v) (hN : Boxed W (G + 1) 22 nx) (hF : Boxed W (G + 1 + 1) 22 y) (hrow : W.ownsRow base 22 1 v k xs)
    (hown : w1.ownsRow base 22 1 v' (k + 1) (xs ++ [.int .u64 id])) (hgrow : (W.alloc (.cells #[.int .u64 id] 22)).grownBy w1 v.ownBlock) :
    GoneNext n0 base G k xs id nx f W ((w1.setCell ⟨G, 0, none⟩ v').setCell ⟨G + 1 + 1, 0, none⟩ (.int .u64 f)) := by
  have far : ∀ i, i < base → (w1.heap[i]?) = W.heap[i]? := fun i hi => by
    rw [hgrow.block i (by simp; omega) (fun e => by have := row_block hrow e.symm; omega)]
    exact Below.heap_alloc _ _ _ (by omega)
  have g1 : Boxed w1 G 38 v := (far G (by omega)).trans hG
  have n1 : Boxed w1 (G + 1) 22 nx := (far _ (by omega)).trans hN
  have f1 : Boxed w1 (G + 1 + 1) 22 y := (far _ (by omega)).trans hF
  have hf : Far G (G + 1 + 1 + 1) w1 ((w1.setCell ⟨G, 0, none⟩ v').setCell ⟨G + 1 + 1, 0, none⟩ (.int .u64 f)) := far_set (far_set (far_refl _ _ _) ⟨by simp, by simp; omega⟩) ⟨by simp; omega, by simp⟩
  have hk1 : KeepsOthers W w1 := (KeepsOthers.alloc W _).trans (KeepsOthers.of_grownBy hgrow fun j o ej hj => by
    rcases (hrow.alloc (.cells #[.int .u64 id] 22)).2 with ⟨rfl, _⟩ | ⟨g, cap, cur, rfl, _, hgb, _⟩
    · cases ej
    · cases ej
      rw [hgb] at hj; cases hj; rfl)
  have hk2 : Kept GoneT n0 W w1 := (Kept.of_below (b1 W _) (by omega)).trans (Kept.grown hgrow (by simp; omega) fun g hg => ⟨by have := row_block hrow hg; omega, fun c t fr hc ht => by
    rcases (hrow.alloc (.cells #[.int .u64 id] 22)).2 with ⟨rfl, _⟩ | ⟨g', cap, cur, rfl, _, hgb, _⟩
    · cases hg
    · cases hg
      rw [hgb] at hc; cases hc; revert ht; decide⟩)
  refine ⟨v', heap_setOther _ _ _ _ _ (by omega) (box1_set _ _ _ g1), heap_setOther _ _ _ _ _ (by omega) (heap_setOther _ _ _ _ _ (by omega) n1), box1_set _ _ _ (heap_setOther _ _ _ _ _ (by omega) f1), hf.own hown (by omega),
    hk1.trans ((KeepsOthers.setCell _ _ _).trans (KeepsOthers.setCell _ _ _)), hk2.trans (far_kept hf (by omega) fun i h1 h2 => ?_)⟩
  rcases (by omega : i = G ∨ i = G + 1 ∨ i = G + 1 + 1) with rfl | rfl | rfl
  · exact ⟨_, _, g1, by decide⟩
  · exact ⟨_, _, n1, by decide⟩
  · exact ⟨_, _, f1, by decide⟩

set_option maxHeartbeats 4000000 in
set_option maxRecDepth 100000 in
theorem gone25 (n : Nat) (hn1 : 5 ≤ n) (p : PlanR) (ch : Int) (w : World) (hp : p.Ok w) (hb : PlanSmall p) :
    CallsIn Fence.wide n Tryz.prog 25 #[p.v, .int .i64 ch] w (GoneMade (goneB p.d ch) w) := by
  obtain ⟨i0, hi, hz0, hz1, hz2⟩ := info_parts info22
  have hhas := fun W (hW : Below w.heap.size w W) => has65 p ch W (hp.mono hW) hb
  have hmk := fun W => ledgers69 p ch W
  have HN : Hid _ := hn1
  clear hn1
  cases hh : chainHasB p.d ch with
  | false =>
    have e0 : goneB p.d ch = ([], 0, 0) := by unfold goneB; rw [hh]; rfl
    rw [e0]
    simp only [hh] at hhas
    clear e0 hmk hp hb hh
    obtain ⟨pv, pn, ⟨ca, cc, cs⟩, ⟨la, lc, ls⟩, ⟨pa, pc, ps⟩⟩ := p
    refine callsIn_of_wp_marks Tryz.func25 rfl trivial ?_ rfl
    simp only [Tryz.ntmps25, List.size_toArray, List.length_cons, List.length_nil, Nat.reduceAdd, Nat.reduceSub, Array.replicate_succ, Array.replicate_zero, List.push_toArray, List.append_toArray, List.nil_append, List.cons_append]
    gi_wp2_with fail
    refine ⟨trivial, fun h => (by cases h), (callsIn_wide.2 (hhas _ (balloc (balloc (balloc (balloc (b1 _ _) _) _) _) _))).mono ?_⟩
    rintro x w3 ⟨rfl, hb3⟩
    have h2 := box_mono (heap5_2 w _ _ _ _ _) hb3
    have h3 := box_mono (heap5_3 w _ _ _ _ _) hb3
    have h4 := box_mono (heap5_4 w _ _ _ _ _) hb3
    obtain ⟨c0, c1⟩ := cells1 h2
    obtain ⟨d0, d1⟩ := cells1 h3
    obtain ⟨e0, e1⟩ := cells1 h4
    have hz1 := box_lt h2
    have hz2 := box_lt h3
    have hz3 := box_lt h4
    have HB3 : Aside _ := hb3
    clear h2 h3 h4 hb3
    dsimp only
    gi_wp2
    refine ⟨.tuple #[.slice none 0 0, .int .u64 0, .int .u64 0], (by simp [results, Tryz.results25, go_sem, c0, d0, e0]), none, 0, rfl, SlOk.nil_ _ _, ?_⟩
    exact Far.below (lo := w.heap.size + 1 + 1) (hi := w.heap.size + 1 + 1 + 1 + 1 + 1) (by repeat (first | (with_reducible refine far_set ?_ ⟨by simp, by simp; try omega⟩) | (with_reducible exact far_refl _ _ _))) (bthen (balloc (balloc (balloc (balloc (b1 w _) _) _) _) _) HB3.out) (by omega)
  | true =>
    obtain ⟨k, c, b, off, rfl, hkl, hc, ha, hbk, hat, hok, hco, hmay⟩ := chan_there hp hh
    have e0 : goneB p.d ((k : Int) + 1) = goneL c.trim (seqL p.d.ledgers c.first c.ledgers.xs) [] c.first := by unfold goneB; rw [hh, if_pos rfl, hco]; rfl
    have hled := fun W0 B1 B2 hW0 h1 h2 => ledgers112 GoneT (by decide) (by decide) (n - 1) p k B1 B2 c w W0 hp hb hc hW0 h1 h2
    have hl8 : c.ledgers.xs.length ≤ 8 := may_eight hmay (show c.d ∈ p.d.channels from List.mem_map.2 ⟨c, List.mem_of_getElem? hc, rfl⟩)
    have hcap := hp.channels.cap
    have hle := hp.channels.le
    have hcell := at_channel hat
    have hk0 : (0 : Int) ≤ (k : Int) + 1 - 1 := by omega
    have hk2 : (k : Int) + 1 - 1 < (p.channels.xs.length : Int) := by omega
    have hk3 : ((k : Int) + 1 - 1).toNat = k := by omega
    have hk4 : (k : Int) < (p.channels.xs.length : Int) := by omega
    have hk5 : (0 : Int) ≤ (k : Int) := by omega
    have hw1 : IntKind.i64.wrap ((k : Int) + 1 - 1) = (k : Int) := by rw [wrap_i64 (by omega) (by omega)]; omega
    have hw2 : IntKind.i64.wrap (k : Int) = (k : Int) := wrap_i64 (by omega) (by omega)
    simp only [hh] at hhas
    generalize goneB p.d ((k : Int) + 1) = rr at e0 ⊢
    have E0 : Hid _ := e0
    clear e0 hp hb hat hok hh hco hmay hc
    generalize p.d.ledgers = LS at hled E0
    obtain ⟨ep, ow, ic, re, fi, tr, ⟨ia, icp, is⟩, ⟨sa, sc, ss⟩, ⟨ua, uc, us⟩⟩ := c
    obtain ⟨pv, pn, ⟨ca, cc, cs⟩, ⟨la, lc, ls⟩, ⟨pa, pc, ps⟩⟩ := p
    dsimp only at *
    subst ha
    refine callsIn_of_wp_marks Tryz.func25 rfl trivial ?_ rfl
    simp only [Tryz.ntmps25, List.size_toArray, List.length_cons, List.length_nil, Nat.reduceAdd, Nat.reduceSub, Array.replicate_succ, Array.replicate_zero, List.push_toArray, List.append_toArray, List.nil_append, List.cons_append]
    gi_wp2_with fail
    refine ⟨trivial, fun h => (by cases h), (callsIn_wide.2 (hhas _ (balloc (balloc (balloc (balloc (b1 _ _) _) _) _) _))).mono ?_⟩
    rintro x w3 ⟨rfl, hb3⟩
    have h0 := box_mono (heap5_0 w _ _ _ _ _) hb3
    have h1 := box_mono (heap5_1 w _ _ _ _ _) hb3
    have h2 := box_mono (heap5_2 w _ _ _ _ _) hb3
    have h3 := box_mono (heap5_3 w _ _ _ _ _) hb3
    have h4 := box_mono (heap5_4 w _ _ _ _ _) hb3
    have hB3 := bthen (balloc (balloc (balloc (balloc (b1 w _) _) _) _) _) hb3
    obtain ⟨q0, q1, q2, q3, q4, r0, r1, r2, r3, r4⟩ := cells5 h0
    obtain ⟨z0, z1⟩ := cells1 h1
    obtain ⟨c0, c1⟩ := cells1 h2
    obtain ⟨d0, d1⟩ := cells1 h3
    obtain ⟨e0, e1⟩ := cells1 h4
    have hz3 := box_lt h4
    have n4 := (hB3.cell (p := ⟨b, off + k * 9 + 4, none⟩) hbk).trans hcell.2.2.2.2.1
    have n5 := (hB3.cell (p := ⟨b, off + k * 9 + 5, none⟩) hbk).trans hcell.2.2.2.2.2.1
    have HB3 : Aside _ := hB3
    have H0 : Aside _ := h0
    have H1 : Aside _ := h1
    have H2 : Aside _ := h2
    have H3 : Aside _ := h3
    have H4 : Aside _ := h4
    clear h0 h1 h2 h3 h4 hb3 hB3 hhas
    dsimp only
    gi_wp2_with fail
    have g0 := heap_setOther w3 w.heap.size (w.heap.size + 1 + 1 + 1 + 1) 0 (.int .u64 fi) (by omega) H0.out
    have g1 := heap_setOther w3 (w.heap.size + 1) (w.heap.size + 1 + 1 + 1 + 1) 0 (.int .u64 fi) (by omega) H1.out
    have g2 := heap_setOther w3 (w.heap.size + 1 + 1) (w.heap.size + 1 + 1 + 1 + 1) 0 (.int .u64 fi) (by omega) H2.out
    have g3 := heap_setOther w3 (w.heap.size + 1 + 1 + 1) (w.heap.size + 1 + 1 + 1 + 1) 0 (.int .u64 fi) (by omega) H3.out
    have g4 : (w3.setCell ⟨w.heap.size + 1 + 1 + 1 + 1, 0, none⟩ (.int .u64 fi)).heap[w.heap.size + 1 + 1 + 1 + 1]? = some (.cells #[.int .u64 fi] 22 (0, 0)) := heap_setSame w3 _ 0 (.int .u64 fi) H4.out
    have hB4 : Below w.heap.size w (w3.setCell ⟨w.heap.size + 1 + 1 + 1 + 1, 0, none⟩ (.int .u64 fi)) := HB3.out.setCell (p := ⟨w.heap.size + 1 + 1 + 1 + 1, 0, none⟩) (by dsimp only; omega) _
    generalize w3.setCell ⟨w.heap.size + 1 + 1 + 1 + 1, 0, none⟩ (.int .u64 fi) = w4 at g0 g1 g2 g3 g4 hB4 ⊢
    clear HB3 H0 H1 H2 H3 H4 q0 q1 q2 q3 q4 r0 r1 r2 r3 r4 z0 z1 c0 c1 d0 d1 e0 e1 n4 n5 hz3
    refine ⟨trivial, fun h => (by cases h), (callsIn_wide.2 (hmk w4)).mono ?_⟩
    rintro x w5 ⟨rfl, rfl⟩
    dsimp only
    gi_wp2_with fail
    have h0a := heap2_0 w4 (.cells #[.int .u64 pv, .int .u64 pn, .slice (some ⟨b, off, none⟩) cs.length cc, .slice la ls.length lc, .slice pa ps.length pc] 27 (0, 0)) (.cells #[.int .i64 ((k : Int) + 1)] 3 (0, 0))
    have h0b := heap2_1 w4 (.cells #[.int .u64 pv, .int .u64 pn, .slice (some ⟨b, off, none⟩) cs.length cc, .slice la ls.length lc, .slice pa ps.length pc] 27 (0, 0)) (.cells #[.int .i64 ((k : Int) + 1)] 3 (0, 0))
    have hb5 : Below w4.heap.size w4 ((w4.alloc (.cells #[.int .u64 pv, .int .u64 pn, .slice (some ⟨b, off, none⟩) cs.length cc, .slice la ls.length lc, .slice pa ps.length pc] 27 (0, 0))).alloc (.cells #[.int .i64 ((k : Int) + 1)] 3 (0, 0))) := balloc (b1 _ _) _
    have hsz : ((w4.alloc (.cells #[.int .u64 pv, .int .u64 pn, .slice (some ⟨b, off, none⟩) cs.length cc, .slice la ls.length lc, .slice pa ps.length pc] 27 (0, 0))).alloc (.cells #[.int .i64 ((k : Int) + 1)] 3 (0, 0))).heap.size = w4.heap.size + 2 := by simp
    obtain ⟨W0, hW0⟩ : ∃ W0, (w4.alloc (.cells #[.int .u64 pv, .int .u64 pn, .slice (some ⟨b, off, none⟩) cs.length cc, .slice la ls.length lc, .slice pa ps.length pc] 27 (0, 0))).alloc (.cells #[.int .i64 ((k : Int) + 1)] 3 (0, 0)) = W0 := ⟨_, rfl⟩
    rw [hW0] at h0a h0b hb5 hsz ⊢
    clear hW0
    have k0 := box_mono g0 hb5
    have k1 := box_mono g1 hb5
    have k2 := box_mono g2 hb5
    have k3 := box_mono g3 hb5
    have k4 := box_mono g4 hb5
    have hz4 := box_lt g4
    have hB0 := bthen hB4 hb5
    have hn0 := hB0.size
    have hseq := hled W0 w4.heap.size (w4.heap.size + 1) hB0 h0a h0b
    clear hled hmk h0a h0b g0 g1 g2 g3 g4 hB4 hb5
    refine wpIn_rangeFunc_ownH rfl (by have := HN.out; omega) (gf := 112) (lb := #[.pointer (some ⟨w4.heap.size, 0, none⟩), .pointer (some ⟨w4.heap.size + 1, 0, none⟩)]) rfl trivial (enters_of Tryz.func112 (by kernel_rfl) rfl)
      hseq (fun h k => h.trans k) (fun W l o o' hl ho hc _ => Kept.putObj o' (by omega) ho hc) (Below.refl _ _) (fun _ => rfl)
      (fun pre W => (∃ v gone first, Boxed W (w.heap.size + 1 + 1) 38 v ∧ Boxed W (w.heap.size + 1 + 1 + 1) 22 (.int .u64 0) ∧ Boxed W (w.heap.size + 1 + 1 + 1 + 1) 22 (.int .u64 first) ∧ W.ownsRow W0.heap.size 22 1 v gone.length (gone.flatMap eU64.enc) ∧ (∀ x ∈ gone, U64 x) ∧ (∀ t, goneL tr (pre.map LX.d ++ t) [] fi = goneL tr t gone first) ∧ gone.length = pre.length) ∧ Kept GoneT w.heap.size W0 W)
      (fun c pre W => (c = .ret ∧ ∃ v gone next first, Boxed W (w.heap.size + 1 + 1) 38 v ∧ Boxed W (w.heap.size + 1 + 1 + 1) 22 (.int .u64 next) ∧ Boxed W (w.heap.size + 1 + 1 + 1 + 1) 22 (.int .u64 first) ∧ W.ownsRow W0.heap.size 22 1 v gone.length (gone.flatMap eU64.enc) ∧ (∀ x ∈ gone, U64 x) ∧ (∀ t, goneL tr (pre.map LX.d ++ t) [] fi = (gone, next, first))) ∧ Kept GoneT w.heap.size W0 W)
      (fun s A B row hs hg hr => by
        obtain ⟨⟨v, gone, first, h1, h2, h3, h4, h5⟩, h6⟩ := hs
        obtain ⟨h5, h7⟩ := h5
        exact ⟨⟨v, gone, first, box_own h1 hg hr, box_own h2 hg hr, box_own h3 hg hr, row_own h4 hg hr, h5, h7⟩, kept_own hn0 h6 (by have := h6.below.size; omega) hg hr⟩)
      (fun c s A B row hs hg hr => by
        obtain ⟨⟨h0, v, gone, next, first, h1, h2, h3, h4, h5, h7⟩, h6⟩ := hs
        exact ⟨⟨h0, v, gone, next, first, box_own h1 hg hr, box_own h2 hg hr, box_own h3 hg hr, row_own h4 hg hr, h5, h7⟩, kept_own hn0 h6 (by have := h6.below.size; omega) hg hr⟩)
      ⟨⟨.slice none 0 0, [], fi, k2, k3, k4, World.ownsRow_nil _ _ _ _, (fun _ h => by cases h), (fun t => rfl), rfl⟩, Kept.refl _ _ _⟩
      (fun x a' W' => ∃ Bx, W'.heap[Bx]? = some (Obj.cells #[.int .u64 x.1.2.id, .int .i64 x.1.2.w, .int .i64 x.1.2.a, .slice x.1.2.frags.a x.1.2.frags.xs.length x.1.2.frags.c, .int .i64 x.1.2.closed, .int .u64 x.1.2.last] 68 (0, 0)) ∧ a' = { tmps := #[.agg #[.int .u64 pv, .int .u64 pn, .slice (some ⟨b, off, none⟩) cs.length cc, .slice la ls.length lc, .slice pa ps.length pc], .int .i64 ((k : Int) + 1), .pointer (some ⟨w.heap.size, 0, none⟩), .pointer (some ⟨w.heap.size + 1, 0, none⟩), .pointer (some ⟨w.heap.size + 1 + 1, 0, none⟩), .pointer (some ⟨w.heap.size + 1 + 1 + 1, 0, none⟩), .pointer (some ⟨w.heap.size + 1 + 1 + 1 + 1, 0, none⟩), .int .u64 x.1.1, .pointer (some ⟨Bx, 0, none⟩), .agg #[.int .u64 pv, .int .u64 pn, .slice (some ⟨b, off, none⟩) cs.length cc, .slice la ls.length lc, .slice pa ps.length pc], .int .i64 ((k : Int) + 1), .bool true, .bool false, .pointer (some ⟨w.heap.size, 2, none⟩), .slice (some ⟨b, off, none⟩) cs.length cc, .int .i64 ((k : Int) + 1), .int .i64 (k : Int), .pointer (some ⟨b, off + k * 9, none⟩), .pointer (some ⟨b, off + k * 9 + 4, none⟩), .int .u64 fi, .agg #[.int .u64 pv, .int .u64 pn, .slice (some ⟨b, off, none⟩) cs.length cc, .slice la ls.length lc, .slice pa ps.length pc], .int .i64 ((k : Int) + 1), .func (.func 112) #[] #[.pointer (some ⟨w4.heap.size, 0, none⟩), .pointer (some ⟨w4.heap.size + 1, 0, none⟩)], .int .u64 x.1.1, x.1.2.v, undef, undef, undef, undef, undef, undef, undef, undef, undef, undef, undef, undef, undef, undef, undef, undef, undef, undef, undef, undef, undef, undef, undef, undef, undef, undef, undef, undef, undef, undef, undef, undef], defers := [] })
      (fun x a' _ A B row hs hg hr => by obtain ⟨Bx, h1, h2⟩ := hs; exact ⟨Bx, box_own h1 hg hr, h2⟩)
      ?assign ?body ?done ?stop
    case assign =>
      rintro l' pre x Wc K ⟨⟨v, gone, first, h1, h2, h3, h4, h5⟩, hk⟩ hK
      have hsc := hk.below.size
      dsimp only [LX.encs]
      gi_wp2
      exact hK _ _ ((KeepsOthers.alloc _ _).from _) (Kept.of_below (b1 _ _) (by omega)) ⟨⟨v, gone, first, h1.alloc _, h2.alloc _, h3.alloc _, h4.alloc _, h5⟩, hk.trans (Kept.of_below (b1 _ _) (by omega))⟩ ⟨Wc.heap.size, heap_top _ _ _ rfl, rfl⟩
    case body =>
      rintro l' pre x a' Wc hl ⟨r, hr⟩ ⟨⟨v, gone, first, h1, h2, h3, h4, h5, h6, h7⟩, hk⟩ ⟨Bx, hbx, rfl⟩ hlen
      obtain ⟨d0, d1, d2, d3, d4, d5, f0, f1, f2, f3, f4, f5⟩ := cells6 hbx
      obtain ⟨q0, q1, q2, q3, q4, r0, r1, r2, r3, r4⟩ := cells5 (hk.types _ _ _ _ k0 (by decide))
      obtain ⟨z0, z1⟩ := cells1 (hk.types _ _ _ _ k1 (by decide))
      have n5 := ((hB0.trans hk.below).cell (p := ⟨b, off + k * 9 + 5, none⟩) hbk).trans hcell.2.2.2.2.2.1
      have H7 : Aside _ := h7
      clear h7
      obtain ⟨va, vc, rfl, hsl⟩ := own_ok (E := eU64) h4 h5
      have x1 := box_ne hbx h1 (by decide)
      have x2 := box_ne hbx h2 (by decide)
      have x3 := box_ne hbx h3 (by decide)
      have x1' := x1.symm
      have x2' := x2.symm
      have x3' := x3.symm
      have c1 := h1.cell
      have c2 := h2.cell
      have c3 := h3.cell
      have u1 := h1.frozen
      have u2 := h2.frozen
      have u3 := h3.frozen
      have hlz := h3.lt
      by_cases hc0 : x.1.2.closed = 0
      · have hcb : (x.1.2.closed == 0) = true := by simpa using hc0
        gi_wp2_with fail
        refine region_quiet_round (F := Fence.wide) (C := fun w' => ∃ m, w' = Wc.drewN m) rfl (by kernel_rfl) (by kernel_rfl) (by kernel_rfl) ⟨1, rfl⟩ ?_
        repeat (gi_big_quiet_step (fail))
        refine wpQuietIn_nil ?_
        rintro _ ⟨nq, rfl⟩
        gi_wp2_with fail
        refine Code.wpIn_mono (Q := fun e _ w' => e = .normal ∧ Far (w.heap.size + 1 + 1) (w.heap.size + 1 + 1 + 1 + 1 + 1) Wc w' ∧ Boxed w' (w.heap.size + 1 + 1) 38 (.slice va gone.length vc) ∧ Boxed w' (w.heap.size + 1 + 1 + 1) 22 (.int .u64 x.1.2.id) ∧ Boxed w' (w.heap.size + 1 + 1 + 1 + 1) 22 (.int .u64 first)) ?_ ?_
        · rintro e a' w' ⟨rfl, hf, y1, y2, y3⟩
          gi_wp2
          refine ⟨far_keeps hf (by omega), ⟨rfl, .slice va gone.length vc, gone, x.1.2.id, first, y1, y2, y3, hf.own h4 (by omega), h5, fun t => ?_⟩, hk.trans (far_kept hf (by omega) fun k h8 h9 => ?_)⟩
          · rw [List.map_append, List.append_assoc, h6]
            show goneL tr ((x.1.1, x.1.2.d) :: t) gone first = _
            unfold goneL
            exact if_pos (.inl hc0)
          · rcases (by omega : k = w.heap.size + 1 + 1 ∨ k = w.heap.size + 1 + 1 + 1 ∨ k = w.heap.size + 1 + 1 + 1 + 1) with rfl | rfl | rfl
            · exact ⟨_, _, h1, by decide⟩
            · exact ⟨_, _, h2, by decide⟩
            · exact ⟨_, _, h3, by decide⟩
        · gi_region_with fail
          all_goals exact gone_stored _ _ _ h1 h2 h3
      · have hcb : (x.1.2.closed == 0) = false := by simpa using hc0
        have hm1 : IntKind.u64.wrap (x.1.1 + x.1.2.last) = addU x.1.1 x.1.2.last := wrap_addU _ _
        by_cases hgt : tr < addU x.1.1 x.1.2.last
        · have hgd : decide (addU x.1.1 x.1.2.last > tr) = true := decide_eq_true hgt
          gi_wp2_with fail
          refine region_quiet_round (F := Fence.wide) (C := fun w' => ∃ m, w' = Wc.drewN m) rfl (by kernel_rfl) (by kernel_rfl) (by kernel_rfl) ⟨1, rfl⟩ ?_
          repeat (gi_big_quiet_step (fail))
          refine wpQuietIn_nil ?_
          rintro _ ⟨nq, rfl⟩
          gi_wp2_with fail
          refine Code.wpIn_mono (Q := fun e _ w' => e = .normal ∧ Far (w.heap.size + 1 + 1) (w.heap.size + 1 + 1 + 1 + 1 + 1) Wc w' ∧ Boxed w' (w.heap.size + 1 + 1) 38 (.slice va gone.length vc) ∧ Boxed w' (w.heap.size + 1 + 1 + 1) 22 (.int .u64 x.1.2.id) ∧ Boxed w' (w.heap.size + 1 + 1 + 1 + 1) 22 (.int .u64 first)) ?_ ?_
          · rintro e a' w' ⟨rfl, hf, y1, y2, y3⟩
            gi_wp2
            refine ⟨far_keeps hf (by omega), ⟨rfl, .slice va gone.length vc, gone, x.1.2.id, first, y1, y2, y3, hf.own h4 (by omega), h5, fun t => ?_⟩, hk.trans (far_kept hf (by omega) fun k h8 h9 => ?_)⟩
            · rw [List.map_append, List.append_assoc, h6]
              show goneL tr ((x.1.1, x.1.2.d) :: t) gone first = _
              unfold goneL
              exact if_pos (.inr hgt)
            · rcases (by omega : k = w.heap.size + 1 + 1 ∨ k = w.heap.size + 1 + 1 + 1 ∨ k = w.heap.size + 1 + 1 + 1 + 1) with rfl | rfl | rfl
              · exact ⟨_, _, h1, by decide⟩
              · exact ⟨_, _, h2, by decide⟩
              · exact ⟨_, _, h3, by decide⟩
          · gi_region_with fail
            all_goals exact gone_stored _ _ _ h1 h2 h3
        · have hgd : decide (addU x.1.1 x.1.2.last > tr) = false := decide_eq_false hgt
          gi_wp2_with fail
          refine region_quiet_round (F := Fence.wide) (C := fun w' => ∃ m, w' = Wc.drewN m) rfl (by kernel_rfl) (by kernel_rfl) (by kernel_rfl) ⟨1, rfl⟩ ?_
          repeat (gi_big_quiet_step (fail))
          refine wpQuietIn_nil ?_
          rintro _ ⟨nq, rfl⟩
          gi_wp2_with fail
          refine Code.wpIn_mono (Q := fun e _ w' => e = .normal ∧ GoneNext w.heap.size W0.heap.size (w.heap.size + 1 + 1) gone.length (gone.flatMap eU64.enc) x.1.2.id (.int .u64 0) (addU x.1.1 x.1.2.last) Wc w') ?_ ?_
          · rintro e a' w' ⟨rfl, v', y1, y2, y3, y4, y5, y6⟩
            gi_wp2
            refine ⟨y5.from _, y6, ⟨v', gone ++ [x.1.2.id], addU x.1.1 x.1.2.last, y1, y2, y3, ?_, ?_, fun t => ?_, ?_⟩, hk.trans y6⟩
            · rw [List.length_append, List.flatMap_append]
              exact y4
            · intro y hy
              rcases List.mem_append.1 hy with h | h
              · exact h5 y h
              · rw [List.mem_singleton] at h
                subst h
                exact x.2.1.2.1
            · rw [List.map_append, List.append_assoc, h6]
              show (if x.1.2.closed = 0 ∨ tr < addU x.1.1 x.1.2.last then (gone, x.1.2.id, first) else goneL tr t (gone ++ [x.1.2.id]) (addU x.1.1 x.1.2.last)) = goneL tr t (gone ++ [x.1.2.id]) (addU x.1.1 x.1.2.last)
              refine if_neg (fun h => ?_)
              rcases h with h | h
              · exact hc0 h
              · exact absurd h (show ¬ tr < addU x.1.1 x.1.2.last by omega)
            · rw [List.length_append, List.length_append, H7.out]
              rfl
          · refine region_held_round (S := fun w' => w'.cell? ⟨Bx, 0, none⟩ = some (.int .u64 x.1.2.id) ∧ w'.cell? ⟨Bx, 5, none⟩ = some (.int .u64 x.1.2.last)) (by kernel_rfl) (by kernel_rfl) (by rintro _ _ ⟨h, _⟩; cases h) ?_
            have hlB := box_lt hbx
            have hg8 : gone.length < 8 := by have := H7.out; omega
            have hm1 : (gone.length + 1) ≤ maxLen := by unfold maxLen; omega
            have hm2 : (gone.length + 1) * 8 ≤ 140737488355328 := by omega
            have hmW : W0.heap.size ≤ Wc.heap.size := by have := (Array.getElem?_eq_some_iff.1 hr).1; omega
            obtain ⟨Wd, hWd⟩ : ∃ Wd, (Wc.drewN nq).drew = Wd := ⟨_, rfl⟩
            have k1 : KeepsOthers Wc Wd := by rw [← hWd]; exact ⟨Nat.le_refl _, fun _ _ h _ => h⟩
            have k2 : Kept GoneT w.heap.size Wc Wd := by rw [← hWd]; exact ⟨⟨rfl, rfl, rfl, Nat.le_refl _, fun _ _ => rfl⟩, fun _ _ _ _ hk _ => hk⟩
            have hbd : Wd.heap[Bx]? = Wc.heap[Bx]? := by rw [← hWd]; rfl
            rw [hbx] at hbd
            have hsd : Wd.heap.size = Wc.heap.size := by rw [← hWd]; rfl
            have a1 : Boxed Wd (w.heap.size + 1 + 1) 38 (.slice va gone.length vc) := by rw [← hWd]; exact h1
            have a2 : Boxed Wd (w.heap.size + 1 + 1 + 1) 22 (.int .u64 0) := by rw [← hWd]; exact h2
            have a3 : Boxed Wd (w.heap.size + 1 + 1 + 1 + 1) 22 (.int .u64 first) := by rw [← hWd]; exact h3
            have a4 : Wd.ownsRow W0.heap.size 22 1 (.slice va gone.length vc) gone.length (gone.flatMap eU64.enc) := by rw [← hWd]; exact h4
            rw [hWd]
            clear hWd d0 d1 d2 d3 d4 d5 f0 f1 f2 f3 f4 f5 c1 c2 c3 u1 u2 u3 x1 x2 x3 x1' x2' x3'
            obtain ⟨e0, e1, e2, e3, e4, e5, -, -, -, -, -, -⟩ := cells6 hbd
            have y1 := box_ne hbd a1 (by decide)
            have y2 := box_ne hbd a2 (by decide)
            have y3 := box_ne hbd a3 (by decide)
            have c1 := a1.cell
            refine wpAnyH_take (i := 1) (v := .pointer (some ⟨Bx, 0, none⟩)) rfl (by kernel_rfl) (by kernel_rfl) (by kernel_rfl) (fun _ _ _ h => h) (.inl ⟨by rfl, by rintro w ⟨s1, s2⟩; go_simp⟩) ⟨e0, e5⟩ ?_
            refine wpAnyH_take (i := 2) (v := .int .u64 x.1.2.id) rfl (by kernel_rfl) (by kernel_rfl) (by kernel_rfl) (fun _ _ _ h => h) (.inl ⟨by rfl, by rintro w ⟨s1, s2⟩; go_simp⟩) ⟨e0, e5⟩ ?_
            refine wpAnyH_take (i := 5) (v := .int .u64 x.1.1) rfl (by kernel_rfl) (by kernel_rfl) (by kernel_rfl) (fun _ _ _ h => h) (.inl ⟨by rfl, by rintro w ⟨s1, s2⟩; go_simp⟩) ⟨e0, e5⟩ ?_
            refine wpAnyH_take (i := 6) (v := .pointer (some ⟨Bx, 5, none⟩)) rfl (by kernel_rfl) (by kernel_rfl) (by kernel_rfl) (fun _ _ _ h => h) (.inl ⟨by rfl, by rintro w ⟨s1, s2⟩; go_simp⟩) ⟨e0, e5⟩ ?_
            refine wpAnyH_take (i := 7) (v := .int .u64 x.1.2.last) rfl (by kernel_rfl) (by kernel_rfl) (by kernel_rfl) (fun _ _ _ h => h) (.inl ⟨by rfl, by rintro w ⟨s1, s2⟩; go_simp⟩) ⟨e0, e5⟩ ?_
            refine wpAnyH_take (i := 8) (v := .int .u64 (addU x.1.1 x.1.2.last)) rfl (by kernel_rfl) (by kernel_rfl) (by kernel_rfl) (fun _ _ _ h => h) (.inl ⟨by rfl, by rintro w ⟨s1, s2⟩; go_simp⟩) ⟨e0, e5⟩ ?_
            have hlBd := box_lt hbd
            have q0 : (Wd.alloc (.cells #[.int .u64 x.1.2.id] 22)).cell? ⟨Bx, 0, none⟩ = some (.int .u64 x.1.2.id) := ((Go.Proofs.YtdiamknibfamdaaGreat.b1 Wd _).cell (p := ⟨Bx, 0, none⟩) hlBd).trans e0
            have q5 : (Wd.alloc (.cells #[.int .u64 x.1.2.id] 22)).cell? ⟨Bx, 5, none⟩ = some (.int .u64 x.1.2.last) := ((Go.Proofs.YtdiamknibfamdaaGreat.b1 Wd _).cell (p := ⟨Bx, 5, none⟩) hlBd).trans e5
            have q1 : (Wd.alloc (.cells #[.int .u64 x.1.2.id] 22)).cell? ⟨w.heap.size + 1 + 1, 0, none⟩ = some (.slice va gone.length vc) := ((Go.Proofs.YtdiamknibfamdaaGreat.b1 Wd _).cell (p := ⟨w.heap.size + 1 + 1, 0, none⟩) (box_lt a1)).trans c1
            have hmb : W0.heap.size ≤ (Wd.alloc (.cells #[.int .u64 x.1.2.id] 22)).heap.size := by simp; omega
            refine wpAnyH_all (rs := [0, 3]) (by kernel_rfl) (by simp) ?_
            intro i hij
            simp only [List.mem_cons, List.not_mem_nil, or_false] at hij
            rcases hij with rfl | rfl
            · refine wpOp_value (v := .slice va gone.length vc) (w' := Wd) rfl (by kernel_rfl) (by go_simp) ⟨⟨e0, e5⟩, ?_⟩
              refine wpAnyH_all (rs := [3]) (by kernel_rfl) (by simp) ?_
              intro i hij
              obtain rfl : i = 3 := by simpa using hij
              refine wpOp_value (v := .slice (some ⟨Wd.heap.size, 0, none⟩) 1 1) (w' := Wd.alloc (.cells #[.int .u64 x.1.2.id] 22)) rfl (by kernel_rfl) (by go_simp) ⟨⟨q0, q5⟩, ?_⟩
              simp only [List.getElem_toArray, List.getElem_cons_succ, List.getElem_cons_zero, Act.put, List.setIfInBounds_toArray, List.set_cons_zero, List.set_cons_succ]
              refine wpAnyH_all (rs := [4]) (by kernel_rfl) (by simp) ?_
              intro i hij
              obtain rfl : i = 4 := by simpa using hij
              refine wpOp_by (o := { dst := some 50, op := .call { callee := .builtin .append, args := #[.tmp 46, .tmp 49], argTypes := #[38, 38] }, type := 38, pos := "chain.go:92", after := #[{ on := 0, ground := .data }, { on := 3, ground := .data }], guard := none }) rfl ?_
              refine step_append_lies (w := Wd.alloc (.cells #[.int .u64 x.1.2.id] 22)) rfl (.tmp 46) (.tmp 49) 38 rfl W0.heap.size 22 i0 (.int .u64 0) 1 8 Tryz.underlying38 hi hz0 hz1 hz2 rfl (by decide) (.slice va gone.length vc) gone.length (gone.flatMap eU64.enc) rfl (a4.alloc _) ⟨Wd.heap.size, 0, none⟩ 1 1 [.int .u64 x.1.2.id] rfl rfl ?_ ?_ (by decide) hm1 hm2 hmb _ rfl ?_
              · intro j u hj
                have : j = 0 ∧ u = .int .u64 x.1.2.id := by
                  cases j with
                  | zero => exact ⟨rfl, by simpa using hj.symm⟩
                  | succ j => simp at hj
                obtain ⟨rfl, rfl⟩ := this
                exact (cells1 (heap_top Wd _ _ rfl)).1
              · intro u hu
                rw [List.mem_singleton] at hu
                subst hu
                rfl
              · intro g cap w1 hown hgrow hat hlt
                have p1 := grown_box a4 hgrow hbd (.inl (by decide))
                have p2 := grown_box a4 hgrow a1 (.inl (by decide))
                have p3 := grown_box a4 hgrow a3 (.inr (by omega))
                have GN := gone_next (n0 := w.heap.size) (f := addU x.1.1 x.1.2.last) (by omega) (by omega) (by omega) a1 a2 a3 a4 hown hgrow
                obtain ⟨t0, t1⟩ := cells1 p2
                have p4 := heap_setOther w1 _ (w.heap.size + 1 + 1) 0 (.slice (some ⟨g, 0, none⟩) (gone.length + 1) cap) (show w.heap.size + 1 + 1 + 1 + 1 ≠ w.heap.size + 1 + 1 by omega) p3
                obtain ⟨t2, t3⟩ := cells1 p4
                have p5 := heap_setOther w1 _ (w.heap.size + 1 + 1) 0 (.slice (some ⟨g, 0, none⟩) (gone.length + 1) cap) y1 p1
                have p6 := heap_setOther _ _ (w.heap.size + 1 + 1 + 1 + 1) 0 (.int .u64 (addU x.1.1 x.1.2.last)) y3 p5
                obtain ⟨z0, -, -, -, -, z5, -, -, -, -, -, -⟩ := cells6 p1
                obtain ⟨v0, -, -, -, -, v5, -, -, -, -, -, -⟩ := cells6 p5
                obtain ⟨s0, -, -, -, -, s5, -, -, -, -, -, -⟩ := cells6 p6
                refine ⟨⟨z0, z5⟩, ?_⟩
                clear p1 p2 p3 p4 p5 p6
                simp only [Act.put, List.setIfInBounds_toArray, List.set_cons_zero, List.set_cons_succ]
                refine wpAnyH_all (rs := [9]) (by kernel_rfl) (by simp) ?_
                intro i hij
                obtain rfl : i = 9 := by simpa using hij
                refine wpOp_skip (w' := w1.setCell ⟨w.heap.size + 1 + 1, 0, none⟩ (.slice (some ⟨g, 0, none⟩) (gone.length + 1) cap)) rfl (by kernel_rfl) (by go_simp) ⟨⟨v0, v5⟩, ?_⟩
                refine wpAnyH_all (rs := [10]) (by kernel_rfl) (by simp) ?_
                intro i hij
                obtain rfl : i = 10 := by simpa using hij
                refine wpOp_skip (w' := (w1.setCell ⟨w.heap.size + 1 + 1, 0, none⟩ (.slice (some ⟨g, 0, none⟩) (gone.length + 1) cap)).setCell ⟨w.heap.size + 1 + 1 + 1 + 1, 0, none⟩ (.int .u64 (addU x.1.1 x.1.2.last))) rfl (by kernel_rfl) (by go_simp) ⟨⟨s0, s5⟩, ?_⟩
                exact wpAnyH_done (by kernel_rfl) ⟨rfl, gone_since k1 k2 GN⟩ _
            · refine wpOp_value (v := .slice (some ⟨Wd.heap.size, 0, none⟩) 1 1) (w' := Wd.alloc (.cells #[.int .u64 x.1.2.id] 22)) rfl (by kernel_rfl) (by go_simp) ⟨⟨q0, q5⟩, ?_⟩
              refine wpAnyH_all (rs := [0]) (by kernel_rfl) (by simp) ?_
              intro i hij
              obtain rfl : i = 0 := by simpa using hij
              refine wpOp_value (v := .slice va gone.length vc) (w' := Wd.alloc (.cells #[.int .u64 x.1.2.id] 22)) rfl (by kernel_rfl) (by go_simp) ⟨⟨q0, q5⟩, ?_⟩
              simp only [List.getElem_toArray, List.getElem_cons_succ, List.getElem_cons_zero, Act.put, List.setIfInBounds_toArray, List.set_cons_zero, List.set_cons_succ]
              refine wpAnyH_all (rs := [4]) (by kernel_rfl) (by simp) ?_
              intro i hij
              obtain rfl : i = 4 := by simpa using hij
              refine wpOp_by (o := { dst := some 50, op := .call { callee := .builtin .append, args := #[.tmp 46, .tmp 49], argTypes := #[38, 38] }, type := 38, pos := "chain.go:92", after := #[{ on := 0, ground := .data }, { on := 3, ground := .data }], guard := none }) rfl ?_
              refine step_append_lies (w := Wd.alloc (.cells #[.int .u64 x.1.2.id] 22)) rfl (.tmp 46) (.tmp 49) 38 rfl W0.heap.size 22 i0 (.int .u64 0) 1 8 Tryz.underlying38 hi hz0 hz1 hz2 rfl (by decide) (.slice va gone.length vc) gone.length (gone.flatMap eU64.enc) rfl (a4.alloc _) ⟨Wd.heap.size, 0, none⟩ 1 1 [.int .u64 x.1.2.id] rfl rfl ?_ ?_ (by decide) hm1 hm2 hmb _ rfl ?_
              · intro j u hj
                have : j = 0 ∧ u = .int .u64 x.1.2.id := by
                  cases j with
                  | zero => exact ⟨rfl, by simpa using hj.symm⟩
                  | succ j => simp at hj
                obtain ⟨rfl, rfl⟩ := this
                exact (cells1 (heap_top Wd _ _ rfl)).1
              · intro u hu
                rw [List.mem_singleton] at hu
                subst hu
                rfl
              · intro g cap w1 hown hgrow hat hlt
                have p1 := grown_box a4 hgrow hbd (.inl (by decide))
                have p2 := grown_box a4 hgrow a1 (.inl (by decide))
                have p3 := grown_box a4 hgrow a3 (.inr (by omega))
                have GN := gone_next (n0 := w.heap.size) (f := addU x.1.1 x.1.2.last) (by omega) (by omega) (by omega) a1 a2 a3 a4 hown hgrow
                obtain ⟨t0, t1⟩ := cells1 p2
                have p4 := heap_setOther w1 _ (w.heap.size + 1 + 1) 0 (.slice (some ⟨g, 0, none⟩) (gone.length + 1) cap) (show w.heap.size + 1 + 1 + 1 + 1 ≠ w.heap.size + 1 + 1 by omega) p3
                obtain ⟨t2, t3⟩ := cells1 p4
                have p5 := heap_setOther w1 _ (w.heap.size + 1 + 1) 0 (.slice (some ⟨g, 0, none⟩) (gone.length + 1) cap) y1 p1
                have p6 := heap_setOther _ _ (w.heap.size + 1 + 1 + 1 + 1) 0 (.int .u64 (addU x.1.1 x.1.2.last)) y3 p5
                obtain ⟨z0, -, -, -, -, z5, -, -, -, -, -, -⟩ := cells6 p1
                obtain ⟨v0, -, -, -, -, v5, -, -, -, -, -, -⟩ := cells6 p5
                obtain ⟨s0, -, -, -, -, s5, -, -, -, -, -, -⟩ := cells6 p6
                refine ⟨⟨z0, z5⟩, ?_⟩
                clear p1 p2 p3 p4 p5 p6
                simp only [Act.put, List.setIfInBounds_toArray, List.set_cons_zero, List.set_cons_succ]
                refine wpAnyH_all (rs := [9]) (by kernel_rfl) (by simp) ?_
                intro i hij
                obtain rfl : i = 9 := by simpa using hij
                refine wpOp_skip (w' := w1.setCell ⟨w.heap.size + 1 + 1, 0, none⟩ (.slice (some ⟨g, 0, none⟩) (gone.length + 1) cap)) rfl (by kernel_rfl) (by go_simp) ⟨⟨v0, v5⟩, ?_⟩
                refine wpAnyH_all (rs := [10]) (by kernel_rfl) (by simp) ?_
                intro i hij
                obtain rfl : i = 10 := by simpa using hij
                refine wpOp_skip (w' := (w1.setCell ⟨w.heap.size + 1 + 1, 0, none⟩ (.slice (some ⟨g, 0, none⟩) (gone.length + 1) cap)).setCell ⟨w.heap.size + 1 + 1 + 1 + 1, 0, none⟩ (.int .u64 (addU x.1.1 x.1.2.last))) rfl (by kernel_rfl) (by go_simp) ⟨⟨s0, s5⟩, ?_⟩
                exact wpAnyH_done (by kernel_rfl) ⟨rfl, gone_since k1 k2 GN⟩ _
    case done =>
      rintro D xs W' hD hS ⟨⟨v, gone, first, h1, h2, h3, h4, h5, h6, h7⟩, hk⟩ hDd
      have hr : rr = (gone, 0, first) := by
        rw [E0.out, ← hS]
        have := h6 []
        rw [List.append_nil] at this
        rw [this]
        rfl
      subst hr
      obtain ⟨va, vc, rfl, hsl⟩ := own_ok (E := eU64) h4 h5
      obtain ⟨t0, t1⟩ := cells1 h1
      obtain ⟨t2, t3⟩ := cells1 h2
      obtain ⟨t4, t5⟩ := cells1 h3
      have hB := hB0.trans hk.below
      have HB : Aside _ := hB
      have HD : Aside _ := hDd
      have hz := box_lt hDd
      have hlz := h3.lt
      clear hsl hk hB hDd
      have hst := gone_stored1 (.slice va gone.length vc) (.int .u64 0) (.int .u64 first) h1 h2 h3
      obtain ⟨W3, hW3⟩ : ∃ W3, W3 = (((W'.setCell ⟨w.heap.size + 1 + 1, 0, none⟩ (.slice va gone.length vc)).setCell ⟨w.heap.size + 1 + 1 + 1, 0, none⟩ (.int .u64 0)).setCell ⟨w.heap.size + 1 + 1 + 1 + 1, 0, none⟩ (.int .u64 first)).drew := ⟨_, rfl⟩
      rw [← hW3] at hst
      obtain ⟨hf, y1, y2, y3⟩ := hst
      have hD' := (hf.block D (.inr (by omega))).trans HD.out
      have h4' := hf.own h4 (by omega)
      have hB' := hf.below HB.out (by omega)
      obtain ⟨va2, vc2, he, hsl2⟩ := own_ok (E := eU64) (ownsRow_putObj h4' (.deferred none) hD' rfl) h5
      cases he
      have YD : Aside _ := hD'
      have YB : Aside _ := hB'
      have YS : Aside _ := hsl2
      have Y1 : Aside _ := y1
      have Y2 : Aside _ := y2
      have Y3 : Aside _ := y3
      have HW3 : Hid _ := hW3
      clear hD' h4' hB' hsl2 y1 y2 y3 hf h7 hW3 h4 h6
      gi_wp2_with fail
      gi_region_with fail
      all_goals
        rw [← HW3.out]
        gi_wp2
        refine ⟨by simp, .inl ⟨_, _, rfl, run_takeDeferred YD.out, ?_⟩⟩
        have k1 := cells1 ((World.putObj_heap_other (w := W3) (o := .deferred none) (show w.heap.size + 1 + 1 ≠ D by omega)).trans Y1.out)
        have k2 := cells1 ((World.putObj_heap_other (w := W3) (o := .deferred none) (show w.heap.size + 1 + 1 + 1 ≠ D by omega)).trans Y2.out)
        have k3 := cells1 ((World.putObj_heap_other (w := W3) (o := .deferred none) (show w.heap.size + 1 + 1 + 1 + 1 ≠ D by omega)).trans Y3.out)
        exact ⟨.tuple #[.slice va gone.length vc, .int .u64 0, .int .u64 first], (by simp [results, Tryz.results25, go_sem, k1.1, k2.1, k3.1]), va, vc, rfl, YS.out, YB.out.trans (belowK_b (w := w) (Nat.le_refl _) _ D _ _ (by omega) YD.out rfl rfl)⟩
    case stop =>
      rintro D c pre W' hD hSp ⟨⟨rfl, v, gone, next, first, h1, h2, h3, h4, h5, h6⟩, hk⟩ hDd
      have hr : rr = (gone, next, first) := by
        obtain ⟨t, ht⟩ := hSp
        rw [E0.out, ← ht]
        exact h6 t
      subst hr
      obtain ⟨va, vc, rfl, hsl⟩ := own_ok (E := eU64) h4 h5
      have hB' := hB0.trans hk.below
      obtain ⟨va2, vc2, he, hsl2⟩ := own_ok (E := eU64) (ownsRow_putObj h4 (.deferred none) hDd rfl) h5
      cases he
      have YD : Aside _ := hDd
      have YB : Aside _ := hB'
      have YS : Aside _ := hsl2
      have Y1 : Aside _ := h1
      have Y2 : Aside _ := h2
      have Y3 : Aside _ := h3
      have hz := box_lt hDd
      clear hDd hB' hsl2 hsl hk h1 h2 h3 h4
      gi_wp2
      refine ⟨by simp, .inl ⟨_, _, rfl, run_takeDeferred YD.out, ?_⟩⟩
      have k1 := cells1 ((World.putObj_heap_other (w := W') (o := .deferred none) (show w.heap.size + 1 + 1 ≠ D by omega)).trans Y1.out)
      have k2 := cells1 ((World.putObj_heap_other (w := W') (o := .deferred none) (show w.heap.size + 1 + 1 + 1 ≠ D by omega)).trans Y2.out)
      have k3 := cells1 ((World.putObj_heap_other (w := W') (o := .deferred none) (show w.heap.size + 1 + 1 + 1 + 1 ≠ D by omega)).trans Y3.out)
      exact ⟨.tuple #[.slice va gone.length vc, .int .u64 next, .int .u64 first], (by simp [results, Tryz.results25, go_sem, k1.1, k2.1, k3.1]), va, vc, rfl, YS.out, YB.out.trans (belowK_b (w := w) (Nat.le_refl _) _ D _ _ (by omega) YD.out rfl rfl)⟩
end Go.Proofs.YtdiamknibfamdaaGreat
