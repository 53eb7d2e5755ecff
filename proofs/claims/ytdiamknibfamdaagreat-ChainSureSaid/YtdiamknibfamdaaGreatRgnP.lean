/- A region that draws its order, within a round of the wide fence, walked as a plain one. -/
import Derived.Test.YtdiamknibfamdaaGreatRgnR
import Derived.OrdersHeld
import Derived.Deep.AppendLies
namespace Go.Proofs.YtdiamknibfamdaaGreat
open Go.RowKit

variable {n l : Nat} {P : Program} {ops : Array Oper} {Q : Exit → Act → World → Prop} {md : Region.Mode}

theorem rowsIn_wide {row : String} {args : Array Value} {w : World} {R : Value → World → Prop} (h : Rows P row args w R) : RowsIn Fence.wide n P row args w R :=
  fun c cs _ => let ⟨v, w', r, s⟩ := h c cs; ⟨v, w', r, stepsIn_wide.2 s⟩

theorem opIn_plain {o : Oper} {a : Act} {w : World} {K : Act → World → Prop} (hd : ∀ c, o.op ≠ .defer c) (h : o.wp P a w K Q) : o.wpIn (Fence.wide.inRound l) n P a w K Q := by
  unfold Oper.wp at h
  unfold Oper.wpIn
  rw [Oper.semAt_eq _ _ _ hd]
  refine ⟨fun _ _ => trivial, ?_⟩
  generalize (execOp a.eval o).run P w = r at h ⊢
  cases r with
  | ok x w' =>
    cases x with
    | value v => exact h
    | skip => exact h
    | defer d => exact h
    | enter f args => exact ⟨(fun hx => by cases hx), CallsIn.inRound l ((callsIn_wide.2 h).mono (fun e w'' he => by cases e <;> exact he))⟩
    | row row args => exact ⟨(fun hx => by cases hx), (rowsIn_wide h : RowsIn Fence.wide (n - 1) P row args w' _)⟩
    | _ => exact h.elim
  | halt x w' => cases x <;> exact h

theorem anyIn_plain (hd : ∀ (i : Nat) (o : Oper), ops[i]? = some o → ∀ c, o.op ≠ .defer c) (hQ : ∀ a w, ¬ Q .outgrown a w) :
    ∀ (fuel : Nat) (listed : Array Bool) (a : Act) (w : World), wpAny P md ops Q fuel listed a w → wpAnyIn (Fence.wide.inRound l) n P md ops Q fuel listed a w := by
  intro fuel
  induction fuel with
  | zero => exact fun _ _ _ h => h
  | succ k ih =>
    intro listed a w h
    refine ⟨h.1, fun i hi => ?_⟩
    have h2 := h.2 i hi
    unfold wpOp at h2
    unfold wpOpIn
    cases ho : ops[i]? with
    | none => rw [ho] at h2; exact ih _ _ _ h2
    | some o =>
      rw [ho] at h2
      dsimp only at h2 ⊢
      split at h2
      · rename_i hw
        rw [if_pos hw]
        rcases h2 with h2 | ⟨_, a', w', hl⟩
        · exact Oper.wpIn_mono (fun a w h => ih _ _ _ h) (opIn_plain (hd i o ho) h2)
        · exact absurd hl (hQ a' w')
      · rename_i hw
        rw [if_neg hw]
        exact ⟨fun _ _ => trivial, ih _ _ _ h2⟩

/-- The region's begin: the walk goes on under a condition on the world, as of a plain region. -/
theorem region_held_round {S : World → Prop} {id : Nat} {a : Act} {w : World} {ls : List Oper} (hd : noDefer ls = true) (hm : P.follows .mixedOrders = true) (hQ : ∀ a w, ¬ Q .outgrown a w)
    (h : wpAnyH P .any ls.toArray Q S ls.toArray.size (Array.replicate ls.toArray.size false) a w.drew) : (Code.region id ls.toArray true).wpIn (Fence.wide.inRound l) n P Q a w :=
  wpIn_region_any hm (anyIn_plain (noDefer_of hd) hQ _ _ _ _ (wpAny_of_held _ _ _ _ h))

/-- An operation is carried out: it leaves a value, or none. -/
theorem wpOp_value {i : Nat} {o : Oper} {v : Value} {a : Act} {w w' : World} {K : Act → World → Prop} (ho : ops[i]? = some o) (hw : Region.wanted o (yielded ops a.tmps) = true) (hr : (execOp a.eval o).run P w = .ok (.value v) w') (h : K (a.put o.dst v) w') : wpOp P ops Q i K a w := by
  unfold wpOp
  rw [ho]
  dsimp only
  rw [if_pos hw]
  refine .inl ?_
  unfold Oper.wp
  rw [hr]
  exact h
theorem wpOp_skip {i : Nat} {o : Oper} {a : Act} {w w' : World} {K : Act → World → Prop} (ho : ops[i]? = some o) (hw : Region.wanted o (yielded ops a.tmps) = true) (hr : (execOp a.eval o).run P w = .ok .skip w') (h : K (a.put o.dst undef) w') : wpOp P ops Q i K a w := by
  unfold wpOp
  rw [ho]
  dsimp only
  rw [if_pos hw]
  refine .inl ?_
  unfold Oper.wp
  rw [hr]
  exact h
theorem wpOp_by {i : Nat} {o : Oper} {a : Act} {w : World} {K : Act → World → Prop} (ho : ops[i]? = some o) (h : if Region.wanted o (yielded ops a.tmps) = true then o.wp P a w K Q else False) : wpOp P ops Q i K a w := by
  unfold wpOp
  rw [ho]
  dsimp only
  split at h
  · rename_i hw
    rw [if_pos hw]
    exact .inl h
  · exact h.elim
end Go.Proofs.YtdiamknibfamdaaGreat
