/- An owned row that is sorted in place: the sort's words on rows, in the words of this family. -/
import Derived.Test.YtdiamknibfamdaaGreatBase
import Derived.Shelf.SlSortCmp.WholeK
namespace Go.Proofs.YtdiamknibfamdaaGreat
open Go.RowKit Go.Sort

variable {α : Type}

theorem flatK_eq [Inhabited α] (E : El α) (xs : List α) : flatK E.enc E.k xs.toArray = (xs.flatMap E.enc).toArray := by
  apply Array.ext_getElem?
  intro t
  have hl := flat_len E xs
  by_cases ht : t < xs.length * E.k
  · have hk : 0 < E.k := Nat.pos_of_ne_zero (fun h => by rw [h] at ht; simp at ht)
    have hq : t / E.k < xs.length := (Nat.div_lt_iff_lt_mul hk).2 ht
    have hi : t % E.k < E.k := Nat.mod_lt _ hk
    have h1 : xs[t / E.k]? = some xs[t / E.k] := List.getElem?_eq_getElem hq
    have h2 : (E.enc xs[t / E.k])[t % E.k]? = some ((E.enc xs[t / E.k])[t % E.k]'(by rw [E.len]; exact hi)) := List.getElem?_eq_getElem _
    have h3 := flat_at E xs _ _ _ _ h1 h2
    rw [Nat.div_add_mod'] at h3
    simp only [flatK, List.getElem?_toArray, h3]
    rw [Array.getElem?_map, Array.getElem?_range, if_pos (by simpa using ht)]
    simp only [Option.map_some]
    have e1 : xs.toArray[t / E.k]! = xs[t / E.k] := by simp [hq]
    rw [e1]
    simp only [Option.some.injEq]
    rw [getElem!_pos _ _ (by rw [E.len]; exact hi)]
  · rw [Array.getElem?_eq_none (by simp [flatK]; omega), Array.getElem?_eq_none (by simp; rw [← List.length_flatMap, hl]; omega)]

theorem own_holds [Inhabited α] {E : El α} {w : World} {base g n c : Nat} {t : TypeId} {xs : List α} (h : w.ownsRow base t E.k (.slice (some ⟨g, 0, none⟩) n c) xs.length (xs.flatMap E.enc)) :
    HoldsK E.enc E.k w g 0 xs.toArray ∧ g < w.heap.size ∧ base ≤ g := by
  obtain ⟨_, ⟨h0, _⟩ | ⟨g', cap, cur, hv, hb, hg, hle, hm, hsz, ht⟩⟩ := h
  · cases h0
  · cases hv
    refine ⟨fun j hj => ?_, (Array.getElem?_eq_some_iff.1 hg).1, hb⟩
    rw [flatK_eq] at hj ⊢
    have hj' : j < (xs.flatMap E.enc).length := by simpa using hj
    have e1 : (xs.flatMap E.enc).toArray[j]! = (xs.flatMap E.enc)[j] := by rw [getElem!_pos _ _ (by simpa using hj')]; simp
    rw [e1, Nat.zero_add]
    refine ⟨?_, by simp [World.frozen?, hg]⟩
    have h2 : (cur.toList.take (xs.length * E.k))[j]? = some ((xs.flatMap E.enc)[j]) := by rw [ht]; exact List.getElem?_eq_getElem hj'
    rw [List.getElem?_take] at h2
    split at h2
    · rw [World.cell?, hg]
      simpa using h2
    · cases h2

theorem putCells_take (F c : Array Value) (h : F.size ≤ c.size) : (putCells id 0 F c).toList.take F.size = F.toList ∧ (putCells id 0 F c).size = c.size := by
  refine ⟨?_, by simp [putCells]⟩
  apply List.ext_getElem?
  intro i
  rw [List.getElem?_take]
  split
  · rename_i hi
    have hc : i < c.size := by omega
    simp [putCells, hi, hc]
  · rename_i hi
    rw [List.getElem?_eq_none (by simp; omega)]

/-- The row is written anew; blocks are laid behind; draws are made. -/
theorem put_own {w : World} {base g n c m : Nat} {t : TypeId} {k : Nat} {xs : List Value} {F : Array Value} {os : Array Obj} (h : w.ownsRow base t k (.slice (some ⟨g, 0, none⟩) n c) n xs) (hF : F.size = n * k) :
    (grow (putRow id (Sort.ahead w m) g 0 F) os).ownsRow base t k (.slice (some ⟨g, 0, none⟩) n c) n F.toList ∧ w.grownBy (grow (putRow id (Sort.ahead w m) g 0 F) os) (some g) := by
  obtain ⟨_, ⟨h0, _⟩ | ⟨g', cap, cur, hv, hb, hg, hle, hm, hsz, ht⟩⟩ := h
  · cases h0
  · cases hv
    have hlt : g < w.heap.size := (Array.getElem?_eq_some_iff.1 hg).1
    have hn : n * k ≤ cur.size := by rw [hsz]; exact Nat.mul_le_mul_right _ hle
    have hh : ∀ i, i < w.heap.size → (grow (putRow id (Sort.ahead w m) g 0 F) os).heap[i]? = if g = i then (w.heap[i]?).map (onCells (putCells id 0 F)) else w.heap[i]? := fun i hi => by
      rw [heap_grow_old _ _ (by simp [putRow, mapBlock, Sort.ahead]; exact hi)]
      show (w.heap.modify g (onCells (putCells id 0 F)))[i]? = _
      rw [Array.getElem?_modify]
    have hp := putCells_take F cur (by omega)
    refine ⟨⟨by simp [hF], .inr ⟨g, c, putCells id 0 F cur, rfl, hb, ?_, hle, hm, by rw [hp.2, hsz], ?_⟩⟩, ?_⟩
    · rw [hh g hlt, if_pos rfl, hg]
      rfl
    · rw [← hF]; exact hp.1
    · refine ⟨rfl, rfl, rfl, ?_, fun i hi hne => ?_⟩
      · simp [grow, putRow, mapBlock, Sort.ahead]
      · rw [hh i hi, if_neg (fun h => hne (by rw [h]))]

end Go.Proofs.YtdiamknibfamdaaGreat
