/- slices.Sort at uint64: an owned row, sorted in place. -/
import Derived.Test.YtdiamknibfamdaaGreatSortD
import Derived.Test.YtdiamknibfamdaaGreatSortN
import Derived.Test.YtdiamknibfamdaaGreatSortF
namespace Go.Proofs.YtdiamknibfamdaaGreat
open Go.RowKit Go.Sort

theorem callees13 : Callees13 where
  ins := Su.insertionSort_int
  brk := Su.breakPatterns_int
  piv := Su.choosePivot_int
  par := Su.partialInsertionSort_int
  peq := Su.partitionEqualOrdered_int
  prt := Su.partitionOrdered_int
theorem plain13 : Plain13 where
  swo := swo_ltInt
  ins := insertionSort_holds
  par := partialInsertionSort_holds
  prt := partition_holds _
  peq := partitionEqual_holds _
  pdq := pdq_sorts _
theorem pdqWalkU : pdqWalk_int := fun blk off cap a b limit d w hH hb hab hbd hsz hl hB =>
  Su.pdqsort_int callees13 plain13 (b - a + 1) blk off cap a b limit d w (by omega) hH hb hab hbd hsz hl hB
theorem sort_u64_eq (zs : List Int) : Sort.sort ltInt zs.toArray = (zs.mergeSort fun x y => decide (x ≤ y)).toArray := by
  rw [← sortInt zs]
theorem putRow_map (enc : Int → Value) (w : World) (blk : Nat) (d : Array Int) : putRow enc w blk 0 d = putRow id w blk 0 (d.map enc) := by
  unfold putRow
  congr 1
  funext c
  unfold putCells
  congr 1
  funext k x
  by_cases h : k < d.size
  · simp [h]
  · simp [h]
theorem enc_u64 (xs : List Int) : xs.flatMap eU64.enc = xs.map (Value.int .u64) := by
  induction xs with
  | nil => rfl
  | cons x t ih => rw [List.flatMap_cons, ih]; rfl

theorem sort47 (a : Option Addr) (c : Nat) (xs : List Int) (base : Nat) (w : World) (h : w.ownsRow base 22 1 (.slice a xs.length c) xs.length (xs.flatMap eU64.enc)) (hsz : xs.length < 4611686018427387904) :
    Calls Tryz.prog 47 #[.slice a xs.length c] w (SortedBy eU64 22 (fun x => x) base a c xs w) := by
  have h' := h
  obtain ⟨hl, ⟨hv, hn⟩ | ⟨g, cap, cur, hv, hb, hg, hle, hm, hsz2, ht⟩⟩ := h'
  · have hx : xs = [] := List.eq_nil_of_length_eq_zero hn
    subst hx
    cases hv
    refine (Su.Sort_int_nil none 0 w).mono fun e w' ⟨he, hw⟩ => ?_
    subst hw
    exact ⟨he, [], List.Perm.refl _, List.Pairwise.nil, h, rfl, ⟨rfl, rfl, rfl, Nat.le_refl _, fun _ _ _ => rfl⟩⟩
  · cases hv
    obtain ⟨hH, hgl, _⟩ := own_holds (E := eU64) h
    have hH' : Holds (Value.int .u64) w g 0 xs.toArray := by
      intro j hj
      have hj' : j < xs.length := by simpa using hj
      have h1 := hH j (by rw [flatK_eq, enc_u64]; simpa using hj)
      rw [flatK_eq, enc_u64] at h1
      simpa [hj'] using h1
    have hs := Su.Sort_int pdqWalkU g 0 c xs.toArray w hH' hgl (by simpa using hsz)
    rw [sort_u64_eq] at hs
    refine hs.mono fun e w' ⟨he, n, os, hw⟩ => ?_
    rw [putRow_map] at hw
    have hp : (xs.mergeSort fun x y => decide (x ≤ y)).Perm xs := List.mergeSort_perm _ _
    have hlen := hp.length_eq
    have ho := put_own (m := n) (os := os) (F := (xs.mergeSort fun x y => decide (x ≤ y)).toArray.map (Value.int .u64)) h (by simp)
    rw [hw]
    refine ⟨he, xs.mergeSort fun x y => decide (x ≤ y), hp, ?_, ?_, hlen, ho.2⟩
    · have := List.pairwise_mergeSort (le := fun x y : Int => decide (x ≤ y)) (fun a b c hab hbc => by simp at *; omega) (fun a b => by simp; omega) xs
      simpa using this
    · have := ho.1
      rw [hlen, enc_u64]
      simpa [show eU64.k = 1 from rfl] using this
end Go.Proofs.YtdiamknibfamdaaGreat
