/- Regions that draw their order, within a round. -/
import Derived.Test.YtdiamknibfamdaaGreatRng
import Derived.Sort.QuietThIn
namespace Go.Proofs.YtdiamknibfamdaaGreat
open Go.RowKit

variable {F : Fence} {n l : Nat} {P : Program} {ops : Array Oper} {Q : Exit → Act → World → Prop} {md : Region.Mode}

theorem opIn_round {o : Oper} {a : Act} {w : World} {K : Act → World → Prop} (hd : ∀ c, o.op ≠ .defer c) (h : o.wpIn F n P a w K Q) : o.wpIn (F.inRound l) n P a w K Q := by
  unfold Oper.wpIn at h ⊢
  rw [Oper.semAt_eq _ _ _ hd] at h ⊢
  exact h
/-- Of operations none of which is a defer statement, what holds outside a round holds within one. -/
theorem anyIn_round (hd : ∀ (i : Nat) (o : Oper), ops[i]? = some o → ∀ c, o.op ≠ .defer c) :
    ∀ (fuel : Nat) (listed : Array Bool) (a : Act) (w : World), wpAnyIn F n P md ops Q fuel listed a w → wpAnyIn (F.inRound l) n P md ops Q fuel listed a w := by
  intro fuel
  induction fuel with
  | zero => exact fun _ _ _ h => h
  | succ k ih =>
    intro listed a w h
    refine ⟨h.1, fun i hi => ?_⟩
    have h2 := h.2 i hi
    unfold wpOpIn at h2 ⊢
    cases ho : ops[i]? with
    | none => rw [ho] at h2; exact ih _ _ _ h2
    | some o =>
      rw [ho] at h2
      dsimp only at h2 ⊢
      split at h2
      · rename_i hw
        rw [if_pos hw]
        exact opIn_round (hd i o ho) (Oper.wpIn_mono (fun a w h => ih _ _ _ h) h2)
      · rename_i hw
        rw [if_neg hw]
        exact ⟨h2.1, ih _ _ _ h2.2⟩
def noDefer (ls : List Oper) : Bool := ls.all fun o => match o.op with | .defer _ => false | _ => true
theorem noDefer_of {ls : List Oper} (h : noDefer ls = true) (i : Nat) (o : Oper) (ho : ls.toArray[i]? = some o) (c : Call) : o.op ≠ .defer c := by
  intro hc
  have hm : o ∈ ls := by
    rw [List.getElem?_toArray] at ho
    exact List.mem_of_getElem? ho
  have := List.all_eq_true.1 h o hm
  rw [hc] at this
  cases this
/-- A region that only reads, within a round. -/
theorem region_quiet_round {C : World → Prop} {id : Nat} {a : Act} {w : World} {ls : List Oper} (hro : F.round = none) (hd : noDefer ls = true) (hm : P.follows .mixedOrders = true) (hB : Region.lexB .any ls.toArray = true) (hC : C { w with drawn := w.drawn + 1 })
    (h : wpQuietIn F n P ls.toArray C (fun a' => ∀ w', C w' → Q .normal a' w') ls a) : (Code.region id ls.toArray true).wpIn (F.inRound l) n P Q a w := by
  simp only [Region.lexB, Bool.and_eq_true] at hB
  refine wpIn_region_any hm (anyIn_round (noDefer_of hd) _ _ _ _ (wpAnyIn_of_quiet (Q := fun a' => ∀ w', C w' → Q .normal a' w') hro (fun _ w' hw' h => h w' hw') _ _ _ _ hC ?_))
  have := wpAnyQIn_lex (F := F) (n := n) (C := C) (md := .any) hB.1 ls 0 (Array.replicate ls.toArray.size false) a (by simp) (by simpa using hB.2) h
  simpa using this
end Go.Proofs.YtdiamknibfamdaaGreat
