/- Cells stored into blocks of one's own alone. -/
import Derived.Test.YtdiamknibfamdaaGreatOwn
namespace Go.Proofs.YtdiamknibfamdaaGreat
open Go.RowKit

/-- Cells were stored into the blocks from lo to hi alone. -/
structure Far (lo hi : Nat) (w w' : World) : Prop where
  os : w'.os = w.os
  tape : w'.tape = w.tape
  output : w'.output = w.output
  size : w'.heap.size = w.heap.size
  block : ∀ i, i < lo ∨ hi ≤ i → w'.heap[i]? = w.heap[i]?
theorem far_refl (lo hi : Nat) (w : World) : Far lo hi w w := ⟨rfl, rfl, rfl, rfl, fun _ _ => rfl⟩
theorem far_set {lo hi : Nat} {w w' : World} {p : Addr} {v : Value} (h : Far lo hi w w') (hp : lo ≤ p.block ∧ p.block < hi) : Far lo hi w (w'.setCell p v) :=
  ⟨h.os, h.tape, h.output, by simp [World.setCell, h.size], fun i hi' => (Below.heap_setCell _ _ _ _ (by omega)).trans (h.block i hi')⟩
theorem Far.own {lo hi : Nat} {w w' : World} {base : Nat} {e : TypeId} {size n : Nat} {v : Value} {xs : List Value} (h : Far lo hi w w') (ho : w.ownsRow base e size v n xs) (hb : hi ≤ base) : w'.ownsRow base e size v n xs := by
  obtain ⟨h1, h2 | ⟨g, cap, cur, hv, hg, hh, r⟩⟩ := ho
  · exact ⟨h1, .inl h2⟩
  · exact ⟨h1, .inr ⟨g, cap, cur, hv, hg, (h.block g (.inr (by omega))).trans hh, r⟩⟩
theorem Far.below {lo hi B : Nat} {a w w' : World} (h : Far lo hi w w') (hb : Below B a w) (hB : B ≤ lo) : Below B a w' :=
  ⟨h.os.trans hb.os, h.tape.trans hb.tape, h.output.trans hb.output, by rw [h.size]; exact hb.size, fun k hk => (h.block k (.inl (by omega))).trans (hb.block k hk)⟩

end Go.Proofs.YtdiamknibfamdaaGreat
