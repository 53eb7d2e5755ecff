/- What a reading of a plan or of an operation tells of memory. -/
import Derived.Test.YtdiamknibfamdaaGreatBase
import Derived.Deep.Slices
namespace Go.Proofs.YtdiamknibfamdaaGreat
open Go.ChangeShapes Go.WideShapes Go.RowKit Go.Deep

variable {α : Type}

/-- Whatever reads as of that type is an element. -/
def Opens (E : El α) (e : TypeId) : Prop :=
  ∀ {H : Type} {enc : TypeId × Value → H} {W : World} {base : Nat} {spare : Nat → Bool} {held : Bool} {fuel : Nat} {cs : List Value} {x : DataW H × List MemPlace}, DataW.trod enc Tryz.prog W base spare held fuel e cs = some x → ∃ y, cs = E.enc y ∧ E.ok W y

theorem list_of {p : Nat → α → Prop} : ∀ (n : Nat), (∀ i, i < n → ∃ x, p i x) → ∃ l : List α, l.length = n ∧ ∀ (i : Nat) (x : α), l[i]? = some x → p i x
  | 0, _ => ⟨[], rfl, fun _ _ h => by simp at h⟩
  | n + 1, h => by
    obtain ⟨l, hl, hx⟩ := list_of n (fun i hi => h i (by omega))
    obtain ⟨y, hy⟩ := h n (by omega)
    refine ⟨l ++ [y], by simp [hl], fun i x hi => ?_⟩
    rw [List.getElem?_append] at hi
    split at hi
    · exact hx i x hi
    · rename_i hn
      have hlt := (List.getElem?_eq_some_iff.1 hi).1
      simp at hlt
      obtain rfl : i = n := by omega
      rw [hl, Nat.sub_self] at hi
      obtain rfl : y = x := by simpa using hi
      exact hy

theorem open_sl {E : El α} {t e : TypeId} (hu : Tryz.prog.underlying t = some (.slice e)) (hc : Tryz.prog.cellsOf e = E.k) (hk : 0 < E.k) (hE : Opens E e) {H : Type} {enc : TypeId × Value → H} {W : World} {base : Nat} {spare : Nat → Bool} {held : Bool} {fuel : Nat} {cs : List Value} {x : DataW H × List MemPlace}
    (h : DataW.trod enc Tryz.prog W base spare held fuel t cs = some x) : ∃ s : Sl α, cs = [.slice s.a s.xs.length s.c] ∧ SlOk E W s := by
  rcases open_slice hu h with ⟨rfl, _⟩ | ⟨a, len, cap, m, n, D, Pl, rfl, hb, hl, hm, hmm, rfl, hx⟩
  · exact ⟨⟨none, 0, []⟩, rfl, SlOk.nil_ E W⟩
  · have hlm : len ≤ m := by rw [hmm]; split <;> omega
    obtain ⟨xs, hxs, hat⟩ := list_of (p := fun i y => E.ok W y ∧ ∀ (j : Nat) (v : Value), (E.enc y)[j]? = some v → W.cell? (a.add (i * E.k + j)) = some v) len (fun i hi => by
      obtain ⟨cs', h1, h2⟩ := hx i (by omega)
      obtain ⟨y, rfl, hy⟩ := hE h2
      obtain ⟨_, _, h4⟩ := World.cells?_some h1
      refine ⟨y, hy, fun j v hv => ?_⟩
      have hj : j < E.k := by have := (List.getElem?_eq_some_iff.1 hv).1; rwa [E.len] at this
      have h5 := h4 j (by rw [hc]; exact hj)
      rw [hc, Deep.add_add] at h5
      exact h5.trans hv)
    refine ⟨⟨some a, cap, xs⟩, by rw [hxs], by rw [hxs]; exact hl, hm, (fun h => by cases h), fun hne => ?_, fun y hy => ?_⟩
    · obtain ⟨b, off, sp⟩ := a
      have h0 : 0 < len := by rw [← hxs]; exact List.length_pos_iff.2 hne
      obtain ⟨y, hy⟩ : ∃ y, xs[0]? = some y := ⟨_, List.getElem?_eq_getElem (by omega)⟩
      obtain ⟨v, hv⟩ : ∃ v, (E.enc y)[0]? = some v := ⟨_, List.getElem?_eq_getElem (by rw [E.len]; exact hk)⟩
      have h1 := (hat 0 y hy).2 0 v hv
      rw [Nat.zero_mul] at h1
      have h1 : W.cell? ⟨b, off, sp⟩ = some v := h1
      have hsp : sp = none ∧ b < W.heap.size := by
        unfold World.cell? at h1
        split at h1
        · rename_i he
          refine ⟨?_, (Array.getElem?_eq_some_iff.1 he).1⟩
          cases sp with
          | none => rfl
          | some _ => simp at h1
        · cases h1
      obtain ⟨rfl, hlt⟩ := hsp
      refine ⟨b, off, rfl, hlt, fun j z hj i u hu => ?_⟩
      have h2 := (hat j z hj).2 i u hu
      rw [Addr.add_lit] at h2
      rwa [Nat.add_assoc]
    · obtain ⟨i, hi, rfl⟩ := List.mem_iff_getElem.1 hy
      exact (hat i _ (List.getElem?_eq_getElem hi)).1

section
variable {H : Type} {enc : TypeId × Value → H} {W : World} {base : Nat} {spare : Nat → Bool} {held : Bool} {fuel : Nat} {cs : List Value} {x : DataW H × List MemPlace}
theorem trod_u64 {t : TypeId} (hu : Tryz.prog.underlying t = some (.int .u64)) (h : DataW.trod enc Tryz.prog W base spare held fuel t cs = some x) : ∃ n, cs = [.int .u64 n] ∧ U64 n := by
  obtain ⟨n, rfl, _, hw⟩ := DataW.trod_int hu h
  refine ⟨n, rfl, ?_⟩
  simp [Lit.wf, IntKind.min, IntKind.max, IntKind.signed, IntKind.bits] at hw
  unfold U64
  omega
theorem trod_i64 {t : TypeId} (hu : Tryz.prog.underlying t = some (.int .i64)) (h : DataW.trod enc Tryz.prog W base spare held fuel t cs = some x) : ∃ n, cs = [.int .i64 n] ∧ I64 n := by
  obtain ⟨n, rfl, _, hw⟩ := DataW.trod_int hu h
  refine ⟨n, rfl, ?_⟩
  simp [Lit.wf, IntKind.min, IntKind.max, IntKind.signed, IntKind.bits] at hw
  unfold I64
  omega
/-- Each field of a struct, by its cells. -/
theorem trod_fields {t : TypeId} {fs : Array Field} (hu : Tryz.prog.underlying t = some (.struct fs)) (h : DataW.trod enc Tryz.prog W base spare held fuel t cs = some x) :
    cs.length = Tryz.prog.cellsOf t ∧ ∃ n, ∀ (i : Nat) (f : Field), fs[i]? = some f → ∃ y, DataW.trod enc Tryz.prog W base spare held n f.type ((cs.drop f.offset).take (Tryz.prog.cellsOf f.type)) = some y := by
  obtain ⟨xs, n, rfl, rfl, hl, hx, hf⟩ := DataW.trod_struct hu h
  refine ⟨hl, n, fun i f hi => ?_⟩
  rw [hf i f hi]
  have hlt := (Array.getElem?_eq_some_iff.1 hi).1
  exact ⟨_, List.getElem?_eq_getElem (by omega)⟩
end

theorem len2 {l : List Value} (h : l.length = 2) : ∃ a b, l = [a, b] := by
  match l, h with
  | [a, b], _ => exact ⟨a, b, rfl⟩
theorem len3 {l : List Value} (h : l.length = 3) : ∃ a b c, l = [a, b, c] := by
  match l, h with
  | [a, b, c], _ => exact ⟨a, b, c, rfl⟩
theorem len5 {l : List Value} (h : l.length = 5) : ∃ a b c d e, l = [a, b, c, d, e] := by
  match l, h with
  | [a, b, c, d, e], _ => exact ⟨a, b, c, d, e, rfl⟩
theorem len6 {l : List Value} (h : l.length = 6) : ∃ a b c d e f, l = [a, b, c, d, e, f] := by
  match l, h with
  | [a, b, c, d, e, f], _ => exact ⟨a, b, c, d, e, f, rfl⟩
theorem len8 {l : List Value} (h : l.length = 8) : ∃ a b c d e f g i, l = [a, b, c, d, e, f, g, i] := by
  match l, h with
  | [a, b, c, d, e, f, g, i], _ => exact ⟨a, b, c, d, e, f, g, i, rfl⟩
theorem len9 {l : List Value} (h : l.length = 9) : ∃ a b c d e f g i j, l = [a, b, c, d, e, f, g, i, j] := by
  match l, h with
  | [a, b, c, d, e, f, g, i, j], _ => exact ⟨a, b, c, d, e, f, g, i, j, rfl⟩

-- THE TYPES
theorem c3 : Tryz.prog.cellsOf 3 = 1 := by kernel_rfl
theorem c22 : Tryz.prog.cellsOf 22 = 1 := by kernel_rfl
theorem c34 : Tryz.prog.cellsOf 34 = 1 := by kernel_rfl
theorem c59 : Tryz.prog.cellsOf 59 = 2 := by kernel_rfl
theorem c134 : Tryz.prog.cellsOf 134 = 3 := by kernel_rfl
theorem c151 : Tryz.prog.cellsOf 151 = 2 := by kernel_rfl
theorem c63 : Tryz.prog.cellsOf 63 = 5 := by kernel_rfl
theorem c82 : Tryz.prog.cellsOf 82 = 8 := by kernel_rfl
theorem c113 : Tryz.prog.cellsOf 113 = 2 := by kernel_rfl
theorem c68 : Tryz.prog.cellsOf 68 = 6 := by kernel_rfl
theorem c42 : Tryz.prog.cellsOf 42 = 9 := by kernel_rfl
theorem c27 : Tryz.prog.cellsOf 27 = 5 := by kernel_rfl
theorem c61 : Tryz.prog.cellsOf 61 = 18 := by kernel_rfl
theorem c38 : Tryz.prog.cellsOf 38 = 1 := by kernel_rfl
theorem c39 : Tryz.prog.cellsOf 39 = 1 := by kernel_rfl
theorem c40 : Tryz.prog.cellsOf 40 = 1 := by kernel_rfl
theorem c23 : Tryz.prog.cellsOf 23 = 1 := by kernel_rfl
theorem c24 : Tryz.prog.cellsOf 24 = 1 := by kernel_rfl
theorem c25 : Tryz.prog.cellsOf 25 = 1 := by kernel_rfl
theorem c57 : Tryz.prog.cellsOf 57 = 1 := by kernel_rfl
theorem c111 : Tryz.prog.cellsOf 111 = 1 := by kernel_rfl
theorem opens_u64 : Opens eU64 22 := fun h => by obtain ⟨n, rfl, hn⟩ := trod_u64 Tryz.underlying22 h; exact ⟨n, rfl, hn⟩
set_option maxRecDepth 10000 in
theorem opens_ePlace : Opens ePlace 59 := by
  intro H enc W base spare held fuel cs x h
  obtain ⟨hl, n, hf⟩ := trod_fields Tryz.underlying59 h
  rw [c59] at hl
  obtain ⟨va, vb, rfl⟩ := len2 hl
  have hf0 := hf 0 _ rfl
  have hf1 := hf 1 _ rfl
  clear hf
  obtain ⟨y0, h0⟩ : ∃ y, DataW.trod enc Tryz.prog W base spare held n 3 (([va, vb].drop 0).take (Tryz.prog.cellsOf 3)) = some y := hf0
  rw [c3] at h0
  have h0 : DataW.trod enc Tryz.prog W base spare held n 3 [va] = some y0 := h0
  obtain ⟨n0, e0, k0⟩ := trod_i64 Tryz.underlying3 h0
  obtain ⟨y1, h1⟩ : ∃ y, DataW.trod enc Tryz.prog W base spare held n 22 (([va, vb].drop 1).take (Tryz.prog.cellsOf 22)) = some y := hf1
  rw [c22] at h1
  have h1 : DataW.trod enc Tryz.prog W base spare held n 22 [vb] = some y1 := h1
  obtain ⟨n1, e1, k1⟩ := trod_u64 Tryz.underlying22 h1
  cases e0; cases e1
  exact ⟨⟨n0, n1⟩, rfl, k0, k1⟩
set_option maxRecDepth 10000 in
theorem opens_eMark : Opens eMark 134 := by
  intro H enc W base spare held fuel cs x h
  obtain ⟨hl, n, hf⟩ := trod_fields Tryz.underlying134 h
  rw [c134] at hl
  obtain ⟨va, vb, vc, rfl⟩ := len3 hl
  have hf0 := hf 0 _ rfl
  have hf1 := hf 1 _ rfl
  have hf2 := hf 2 _ rfl
  clear hf
  obtain ⟨y0, h0⟩ : ∃ y, DataW.trod enc Tryz.prog W base spare held n 3 (([va, vb, vc].drop 0).take (Tryz.prog.cellsOf 3)) = some y := hf0
  rw [c3] at h0
  have h0 : DataW.trod enc Tryz.prog W base spare held n 3 [va] = some y0 := h0
  obtain ⟨n0, e0, k0⟩ := trod_i64 Tryz.underlying3 h0
  obtain ⟨y1, h1⟩ : ∃ y, DataW.trod enc Tryz.prog W base spare held n 22 (([va, vb, vc].drop 1).take (Tryz.prog.cellsOf 22)) = some y := hf1
  rw [c22] at h1
  have h1 : DataW.trod enc Tryz.prog W base spare held n 22 [vb] = some y1 := h1
  obtain ⟨n1, e1, k1⟩ := trod_u64 Tryz.underlying22 h1
  obtain ⟨y2, h2⟩ : ∃ y, DataW.trod enc Tryz.prog W base spare held n 22 (([va, vb, vc].drop 2).take (Tryz.prog.cellsOf 22)) = some y := hf2
  rw [c22] at h2
  have h2 : DataW.trod enc Tryz.prog W base spare held n 22 [vc] = some y2 := h2
  obtain ⟨n2, e2, k2⟩ := trod_u64 Tryz.underlying22 h2
  cases e0; cases e1; cases e2
  exact ⟨⟨n0, n1, n2⟩, rfl, k0, k1, k2⟩
set_option maxRecDepth 10000 in
theorem opens_eCursor : Opens eCursor 151 := by
  intro H enc W base spare held fuel cs x h
  obtain ⟨hl, n, hf⟩ := trod_fields Tryz.underlying151 h
  rw [c151] at hl
  obtain ⟨va, vb, rfl⟩ := len2 hl
  have hf0 := hf 0 _ rfl
  have hf1 := hf 1 _ rfl
  clear hf
  obtain ⟨y0, h0⟩ : ∃ y, DataW.trod enc Tryz.prog W base spare held n 3 (([va, vb].drop 0).take (Tryz.prog.cellsOf 3)) = some y := hf0
  rw [c3] at h0
  have h0 : DataW.trod enc Tryz.prog W base spare held n 3 [va] = some y0 := h0
  obtain ⟨n0, e0, k0⟩ := trod_i64 Tryz.underlying3 h0
  obtain ⟨y1, h1⟩ : ∃ y, DataW.trod enc Tryz.prog W base spare held n 22 (([va, vb].drop 1).take (Tryz.prog.cellsOf 22)) = some y := hf1
  rw [c22] at h1
  have h1 : DataW.trod enc Tryz.prog W base spare held n 22 [vb] = some y1 := h1
  obtain ⟨n1, e1, k1⟩ := trod_u64 Tryz.underlying22 h1
  cases e0; cases e1
  exact ⟨⟨n0, n1⟩, rfl, k0, k1⟩
def eOut : El Outcome := ⟨5, fun x => [.int .i64 x.code, .int .u64 x.epoch, .int .u64 x.at_, .int .u64 x.ledger, .int .i64 x.owner], fun _ => rfl, fun x v hv => by simp at hv; rcases hv with rfl | rfl | rfl | rfl | rfl <;> rfl, fun _ x => x.Ok, fun h _ => h⟩
set_option maxRecDepth 10000 in
theorem opens_eOut : Opens eOut 63 := by
  intro H enc W base spare held fuel cs x h
  obtain ⟨hl, n, hf⟩ := trod_fields Tryz.underlying63 h
  rw [c63] at hl
  obtain ⟨va, vb, vc, vd, ve, rfl⟩ := len5 hl
  have hf0 := hf 0 _ rfl
  have hf1 := hf 1 _ rfl
  have hf2 := hf 2 _ rfl
  have hf3 := hf 3 _ rfl
  have hf4 := hf 4 _ rfl
  clear hf
  obtain ⟨y0, h0⟩ : ∃ y, DataW.trod enc Tryz.prog W base spare held n 34 (([va, vb, vc, vd, ve].drop 0).take (Tryz.prog.cellsOf 34)) = some y := hf0
  rw [c34] at h0
  have h0 : DataW.trod enc Tryz.prog W base spare held n 34 [va] = some y0 := h0
  obtain ⟨n0, e0, k0⟩ := trod_i64 Tryz.underlying34 h0
  obtain ⟨y1, h1⟩ : ∃ y, DataW.trod enc Tryz.prog W base spare held n 22 (([va, vb, vc, vd, ve].drop 1).take (Tryz.prog.cellsOf 22)) = some y := hf1
  rw [c22] at h1
  have h1 : DataW.trod enc Tryz.prog W base spare held n 22 [vb] = some y1 := h1
  obtain ⟨n1, e1, k1⟩ := trod_u64 Tryz.underlying22 h1
  obtain ⟨y2, h2⟩ : ∃ y, DataW.trod enc Tryz.prog W base spare held n 22 (([va, vb, vc, vd, ve].drop 2).take (Tryz.prog.cellsOf 22)) = some y := hf2
  rw [c22] at h2
  have h2 : DataW.trod enc Tryz.prog W base spare held n 22 [vc] = some y2 := h2
  obtain ⟨n2, e2, k2⟩ := trod_u64 Tryz.underlying22 h2
  obtain ⟨y3, h3⟩ : ∃ y, DataW.trod enc Tryz.prog W base spare held n 22 (([va, vb, vc, vd, ve].drop 3).take (Tryz.prog.cellsOf 22)) = some y := hf3
  rw [c22] at h3
  have h3 : DataW.trod enc Tryz.prog W base spare held n 22 [vd] = some y3 := h3
  obtain ⟨n3, e3, k3⟩ := trod_u64 Tryz.underlying22 h3
  obtain ⟨y4, h4⟩ : ∃ y, DataW.trod enc Tryz.prog W base spare held n 3 (([va, vb, vc, vd, ve].drop 4).take (Tryz.prog.cellsOf 3)) = some y := hf4
  rw [c3] at h4
  have h4 : DataW.trod enc Tryz.prog W base spare held n 3 [ve] = some y4 := h4
  obtain ⟨n4, e4, k4⟩ := trod_i64 Tryz.underlying3 h4
  cases e0; cases e1; cases e2; cases e3; cases e4
  exact ⟨⟨n0, n1, n2, n3, n4⟩, rfl, k0, k1, k2, k3, k4⟩
theorem opens_out {H : Type} {enc : TypeId × Value → H} {W : World} {base : Nat} {spare : Nat → Bool} {held : Bool} {fuel : Nat} {cs : List Value} {x : DataW H × List MemPlace} (h : DataW.trod enc Tryz.prog W base spare held fuel 63 cs = some x) :
    ∃ y : Outcome, cs = [.int .i64 y.code, .int .u64 y.epoch, .int .u64 y.at_, .int .u64 y.ledger, .int .i64 y.owner] ∧ y.Ok := opens_eOut h
set_option maxRecDepth 10000 in
theorem opens_ePast : Opens ePast 82 := by
  intro H enc W base spare held fuel cs x h
  obtain ⟨hl, n, hf⟩ := trod_fields Tryz.underlying82 h
  rw [c82] at hl
  obtain ⟨va, vb, vc, vd, ve, vf, vg, vi, rfl⟩ := len8 hl
  have hf0 := hf 0 _ rfl
  have hf1 := hf 1 _ rfl
  have hf2 := hf 2 _ rfl
  have hf3 := hf 3 _ rfl
  clear hf
  obtain ⟨y0, h0⟩ : ∃ y, DataW.trod enc Tryz.prog W base spare held n 3 (([va, vb, vc, vd, ve, vf, vg, vi].drop 0).take (Tryz.prog.cellsOf 3)) = some y := hf0
  rw [c3] at h0
  have h0 : DataW.trod enc Tryz.prog W base spare held n 3 [va] = some y0 := h0
  obtain ⟨n0, e0, k0⟩ := trod_i64 Tryz.underlying3 h0
  obtain ⟨y1, h1⟩ : ∃ y, DataW.trod enc Tryz.prog W base spare held n 22 (([va, vb, vc, vd, ve, vf, vg, vi].drop 1).take (Tryz.prog.cellsOf 22)) = some y := hf1
  rw [c22] at h1
  have h1 : DataW.trod enc Tryz.prog W base spare held n 22 [vb] = some y1 := h1
  obtain ⟨n1, e1, k1⟩ := trod_u64 Tryz.underlying22 h1
  obtain ⟨y2, h2⟩ : ∃ y, DataW.trod enc Tryz.prog W base spare held n 22 (([va, vb, vc, vd, ve, vf, vg, vi].drop 2).take (Tryz.prog.cellsOf 22)) = some y := hf2
  rw [c22] at h2
  have h2 : DataW.trod enc Tryz.prog W base spare held n 22 [vc] = some y2 := h2
  obtain ⟨n2, e2, k2⟩ := trod_u64 Tryz.underlying22 h2
  obtain ⟨y3, h3⟩ : ∃ y, DataW.trod enc Tryz.prog W base spare held n 63 (([va, vb, vc, vd, ve, vf, vg, vi].drop 3).take (Tryz.prog.cellsOf 63)) = some y := hf3
  rw [c63] at h3
  have h3 : DataW.trod enc Tryz.prog W base spare held n 63 [vd, ve, vf, vg, vi] = some y3 := h3
  obtain ⟨n3, e3, k3⟩ := opens_out h3
  cases e0; cases e1; cases e2; cases e3
  exact ⟨⟨n0, n1, n2, n3⟩, rfl, k0, k1, k2, k3⟩
set_option maxRecDepth 10000 in
theorem opens_eFrag : Opens eFrag 113 := by
  intro H enc W base spare held fuel cs x h
  obtain ⟨hl, n, hf⟩ := trod_fields Tryz.underlying113 h
  rw [c113] at hl
  obtain ⟨va, vb, rfl⟩ := len2 hl
  have hf0 := hf 0 _ rfl
  have hf1 := hf 1 _ rfl
  clear hf
  obtain ⟨y0, h0⟩ : ∃ y, DataW.trod enc Tryz.prog W base spare held n 22 (([va, vb].drop 0).take (Tryz.prog.cellsOf 22)) = some y := hf0
  rw [c22] at h0
  have h0 : DataW.trod enc Tryz.prog W base spare held n 22 [va] = some y0 := h0
  obtain ⟨n0, e0, k0⟩ := trod_u64 Tryz.underlying22 h0
  obtain ⟨y1, h1⟩ : ∃ y, DataW.trod enc Tryz.prog W base spare held n 111 (([va, vb].drop 1).take (Tryz.prog.cellsOf 111)) = some y := hf1
  rw [c111] at h1
  have h1 : DataW.trod enc Tryz.prog W base spare held n 111 [vb] = some y1 := h1
  obtain ⟨s1, e1, k1⟩ := open_sl (E := ePlace) Tryz.underlying111 c59 (by decide) opens_ePlace h1
  cases e0; cases e1
  exact ⟨⟨n0, s1⟩, rfl, k0, k1⟩
set_option maxRecDepth 10000 in
theorem opens_eLedger : Opens eLedger 68 := by
  intro H enc W base spare held fuel cs x h
  obtain ⟨hl, n, hf⟩ := trod_fields Tryz.underlying68 h
  rw [c68] at hl
  obtain ⟨va, vb, vc, vd, ve, vf, rfl⟩ := len6 hl
  have hf0 := hf 0 _ rfl
  have hf1 := hf 1 _ rfl
  have hf2 := hf 2 _ rfl
  have hf3 := hf 3 _ rfl
  have hf4 := hf 4 _ rfl
  have hf5 := hf 5 _ rfl
  clear hf
  obtain ⟨y0, h0⟩ : ∃ y, DataW.trod enc Tryz.prog W base spare held n 22 (([va, vb, vc, vd, ve, vf].drop 0).take (Tryz.prog.cellsOf 22)) = some y := hf0
  rw [c22] at h0
  have h0 : DataW.trod enc Tryz.prog W base spare held n 22 [va] = some y0 := h0
  obtain ⟨n0, e0, k0⟩ := trod_u64 Tryz.underlying22 h0
  obtain ⟨y1, h1⟩ : ∃ y, DataW.trod enc Tryz.prog W base spare held n 3 (([va, vb, vc, vd, ve, vf].drop 1).take (Tryz.prog.cellsOf 3)) = some y := hf1
  rw [c3] at h1
  have h1 : DataW.trod enc Tryz.prog W base spare held n 3 [vb] = some y1 := h1
  obtain ⟨n1, e1, k1⟩ := trod_i64 Tryz.underlying3 h1
  obtain ⟨y2, h2⟩ : ∃ y, DataW.trod enc Tryz.prog W base spare held n 3 (([va, vb, vc, vd, ve, vf].drop 2).take (Tryz.prog.cellsOf 3)) = some y := hf2
  rw [c3] at h2
  have h2 : DataW.trod enc Tryz.prog W base spare held n 3 [vc] = some y2 := h2
  obtain ⟨n2, e2, k2⟩ := trod_i64 Tryz.underlying3 h2
  obtain ⟨y3, h3⟩ : ∃ y, DataW.trod enc Tryz.prog W base spare held n 57 (([va, vb, vc, vd, ve, vf].drop 3).take (Tryz.prog.cellsOf 57)) = some y := hf3
  rw [c57] at h3
  have h3 : DataW.trod enc Tryz.prog W base spare held n 57 [vd] = some y3 := h3
  obtain ⟨s3, e3, k3⟩ := open_sl (E := eFrag) Tryz.underlying57 c113 (by decide) opens_eFrag h3
  obtain ⟨y4, h4⟩ : ∃ y, DataW.trod enc Tryz.prog W base spare held n 3 (([va, vb, vc, vd, ve, vf].drop 4).take (Tryz.prog.cellsOf 3)) = some y := hf4
  rw [c3] at h4
  have h4 : DataW.trod enc Tryz.prog W base spare held n 3 [ve] = some y4 := h4
  obtain ⟨n4, e4, k4⟩ := trod_i64 Tryz.underlying3 h4
  obtain ⟨y5, h5⟩ : ∃ y, DataW.trod enc Tryz.prog W base spare held n 22 (([va, vb, vc, vd, ve, vf].drop 5).take (Tryz.prog.cellsOf 22)) = some y := hf5
  rw [c22] at h5
  have h5 : DataW.trod enc Tryz.prog W base spare held n 22 [vf] = some y5 := h5
  obtain ⟨n5, e5, k5⟩ := trod_u64 Tryz.underlying22 h5
  cases e0; cases e1; cases e2; cases e3; cases e4; cases e5
  exact ⟨⟨n0, n1, n2, s3, n4, n5⟩, rfl, k0, k1, k2, k3, k4, k5⟩
set_option maxRecDepth 10000 in
theorem opens_eChannel : Opens eChannel 42 := by
  intro H enc W base spare held fuel cs x h
  obtain ⟨hl, n, hf⟩ := trod_fields Tryz.underlying42 h
  rw [c42] at hl
  obtain ⟨va, vb, vc, vd, ve, vf, vg, vi, vj, rfl⟩ := len9 hl
  have hf0 := hf 0 _ rfl
  have hf1 := hf 1 _ rfl
  have hf2 := hf 2 _ rfl
  have hf3 := hf 3 _ rfl
  have hf4 := hf 4 _ rfl
  have hf5 := hf 5 _ rfl
  have hf6 := hf 6 _ rfl
  have hf7 := hf 7 _ rfl
  have hf8 := hf 8 _ rfl
  clear hf
  obtain ⟨y0, h0⟩ : ∃ y, DataW.trod enc Tryz.prog W base spare held n 22 (([va, vb, vc, vd, ve, vf, vg, vi, vj].drop 0).take (Tryz.prog.cellsOf 22)) = some y := hf0
  rw [c22] at h0
  have h0 : DataW.trod enc Tryz.prog W base spare held n 22 [va] = some y0 := h0
  obtain ⟨n0, e0, k0⟩ := trod_u64 Tryz.underlying22 h0
  obtain ⟨y1, h1⟩ : ∃ y, DataW.trod enc Tryz.prog W base spare held n 3 (([va, vb, vc, vd, ve, vf, vg, vi, vj].drop 1).take (Tryz.prog.cellsOf 3)) = some y := hf1
  rw [c3] at h1
  have h1 : DataW.trod enc Tryz.prog W base spare held n 3 [vb] = some y1 := h1
  obtain ⟨n1, e1, k1⟩ := trod_i64 Tryz.underlying3 h1
  obtain ⟨y2, h2⟩ : ∃ y, DataW.trod enc Tryz.prog W base spare held n 22 (([va, vb, vc, vd, ve, vf, vg, vi, vj].drop 2).take (Tryz.prog.cellsOf 22)) = some y := hf2
  rw [c22] at h2
  have h2 : DataW.trod enc Tryz.prog W base spare held n 22 [vc] = some y2 := h2
  obtain ⟨n2, e2, k2⟩ := trod_u64 Tryz.underlying22 h2
  obtain ⟨y3, h3⟩ : ∃ y, DataW.trod enc Tryz.prog W base spare held n 22 (([va, vb, vc, vd, ve, vf, vg, vi, vj].drop 3).take (Tryz.prog.cellsOf 22)) = some y := hf3
  rw [c22] at h3
  have h3 : DataW.trod enc Tryz.prog W base spare held n 22 [vd] = some y3 := h3
  obtain ⟨n3, e3, k3⟩ := trod_u64 Tryz.underlying22 h3
  obtain ⟨y4, h4⟩ : ∃ y, DataW.trod enc Tryz.prog W base spare held n 22 (([va, vb, vc, vd, ve, vf, vg, vi, vj].drop 4).take (Tryz.prog.cellsOf 22)) = some y := hf4
  rw [c22] at h4
  have h4 : DataW.trod enc Tryz.prog W base spare held n 22 [ve] = some y4 := h4
  obtain ⟨n4, e4, k4⟩ := trod_u64 Tryz.underlying22 h4
  obtain ⟨y5, h5⟩ : ∃ y, DataW.trod enc Tryz.prog W base spare held n 22 (([va, vb, vc, vd, ve, vf, vg, vi, vj].drop 5).take (Tryz.prog.cellsOf 22)) = some y := hf5
  rw [c22] at h5
  have h5 : DataW.trod enc Tryz.prog W base spare held n 22 [vf] = some y5 := h5
  obtain ⟨n5, e5, k5⟩ := trod_u64 Tryz.underlying22 h5
  obtain ⟨y6, h6⟩ : ∃ y, DataW.trod enc Tryz.prog W base spare held n 38 (([va, vb, vc, vd, ve, vf, vg, vi, vj].drop 6).take (Tryz.prog.cellsOf 38)) = some y := hf6
  rw [c38] at h6
  have h6 : DataW.trod enc Tryz.prog W base spare held n 38 [vg] = some y6 := h6
  obtain ⟨s6, e6, k6⟩ := open_sl (E := eU64) Tryz.underlying38 c22 (by decide) opens_u64 h6
  obtain ⟨y7, h7⟩ : ∃ y, DataW.trod enc Tryz.prog W base spare held n 39 (([va, vb, vc, vd, ve, vf, vg, vi, vj].drop 7).take (Tryz.prog.cellsOf 39)) = some y := hf7
  rw [c39] at h7
  have h7 : DataW.trod enc Tryz.prog W base spare held n 39 [vi] = some y7 := h7
  obtain ⟨s7, e7, k7⟩ := open_sl (E := eMark) Tryz.underlying39 c134 (by decide) opens_eMark h7
  obtain ⟨y8, h8⟩ : ∃ y, DataW.trod enc Tryz.prog W base spare held n 40 (([va, vb, vc, vd, ve, vf, vg, vi, vj].drop 8).take (Tryz.prog.cellsOf 40)) = some y := hf8
  rw [c40] at h8
  have h8 : DataW.trod enc Tryz.prog W base spare held n 40 [vj] = some y8 := h8
  obtain ⟨s8, e8, k8⟩ := open_sl (E := eCursor) Tryz.underlying40 c151 (by decide) opens_eCursor h8
  cases e0; cases e1; cases e2; cases e3; cases e4; cases e5; cases e6; cases e7; cases e8
  exact ⟨⟨n0, n1, n2, n3, n4, n5, s6, s7, s8⟩, rfl, ⟨k0, k1, k2, k3, k4, k5, k6, k7, k8⟩⟩
def ePlan : El PlanR := ⟨5, fun x => [.int .u64 x.version, .int .u64 x.next, .slice x.channels.a x.channels.xs.length x.channels.c, .slice x.ledgers.a x.ledgers.xs.length x.ledgers.c, .slice x.past.a x.past.xs.length x.past.c],
  fun _ => rfl, fun x v hv => by simp at hv; rcases hv with rfl | rfl | rfl | rfl | rfl <;> rfl, fun w x => x.Ok w, fun h hw => h.mono hw⟩
set_option maxRecDepth 10000 in
theorem opens_ePlan : Opens ePlan 27 := by
  intro H enc W base spare held fuel cs x h
  obtain ⟨hl, n, hf⟩ := trod_fields Tryz.underlying27 h
  rw [c27] at hl
  obtain ⟨va, vb, vc, vd, ve, rfl⟩ := len5 hl
  have hf0 := hf 0 _ rfl
  have hf1 := hf 1 _ rfl
  have hf2 := hf 2 _ rfl
  have hf3 := hf 3 _ rfl
  have hf4 := hf 4 _ rfl
  clear hf
  obtain ⟨y0, h0⟩ : ∃ y, DataW.trod enc Tryz.prog W base spare held n 22 (([va, vb, vc, vd, ve].drop 0).take (Tryz.prog.cellsOf 22)) = some y := hf0
  rw [c22] at h0
  have h0 : DataW.trod enc Tryz.prog W base spare held n 22 [va] = some y0 := h0
  obtain ⟨n0, e0, k0⟩ := trod_u64 Tryz.underlying22 h0
  obtain ⟨y1, h1⟩ : ∃ y, DataW.trod enc Tryz.prog W base spare held n 22 (([va, vb, vc, vd, ve].drop 1).take (Tryz.prog.cellsOf 22)) = some y := hf1
  rw [c22] at h1
  have h1 : DataW.trod enc Tryz.prog W base spare held n 22 [vb] = some y1 := h1
  obtain ⟨n1, e1, k1⟩ := trod_u64 Tryz.underlying22 h1
  obtain ⟨y2, h2⟩ : ∃ y, DataW.trod enc Tryz.prog W base spare held n 23 (([va, vb, vc, vd, ve].drop 2).take (Tryz.prog.cellsOf 23)) = some y := hf2
  rw [c23] at h2
  have h2 : DataW.trod enc Tryz.prog W base spare held n 23 [vc] = some y2 := h2
  obtain ⟨s2, e2, k2⟩ := open_sl (E := eChannel) Tryz.underlying23 c42 (by decide) opens_eChannel h2
  obtain ⟨y3, h3⟩ : ∃ y, DataW.trod enc Tryz.prog W base spare held n 24 (([va, vb, vc, vd, ve].drop 3).take (Tryz.prog.cellsOf 24)) = some y := hf3
  rw [c24] at h3
  have h3 : DataW.trod enc Tryz.prog W base spare held n 24 [vd] = some y3 := h3
  obtain ⟨s3, e3, k3⟩ := open_sl (E := eLedger) Tryz.underlying24 c68 (by decide) opens_eLedger h3
  obtain ⟨y4, h4⟩ : ∃ y, DataW.trod enc Tryz.prog W base spare held n 25 (([va, vb, vc, vd, ve].drop 4).take (Tryz.prog.cellsOf 25)) = some y := hf4
  rw [c25] at h4
  have h4 : DataW.trod enc Tryz.prog W base spare held n 25 [ve] = some y4 := h4
  obtain ⟨s4, e4, k4⟩ := open_sl (E := ePast) Tryz.underlying25 c82 (by decide) opens_ePast h4
  cases e0; cases e1; cases e2; cases e3; cases e4
  exact ⟨⟨n0, n1, s2, s3, s4⟩, rfl, ⟨k0, k1, k2, k3, k4⟩⟩
set_option maxRecDepth 10000 in
/-- A plan that came in. -/
theorem open_plan {H : Type} {enc : TypeId × Value → H} {W : World} {base : Nat} {spare : Nat → Bool} {held : Bool} {v : Value} {d : DataW H} {ps : List MemPlace} {r : Reach} {b0 : Nat} (hv : Value.okWide Tryz.prog W r b0 27 v) (h : DataW.Trod enc Tryz.prog W base spare held 27 v d ps) : ∃ p : PlanR, v = p.v ∧ p.Ok W := by
  obtain ⟨fuel, hf⟩ := h
  obtain ⟨p, hc, hp⟩ := opens_ePlan hf
  obtain ⟨cs, rfl, _⟩ := okWide_struct Tryz.underlying27 hv
  have e : cs = (ePlan.enc p).toArray := Array.toList_inj.1 hc
  subst e
  exact ⟨p, rfl, hp⟩
set_option maxRecDepth 10000 in
theorem open_i64 {H : Type} {enc : TypeId × Value → H} {W : World} {base : Nat} {spare : Nat → Bool} {held : Bool} {v : Value} {d : DataW H} {ps : List MemPlace} {r : Reach} {b0 : Nat} (hv : Value.okWide Tryz.prog W r b0 3 v) (h : DataW.Trod enc Tryz.prog W base spare held 3 v d ps) : ∃ n, v = .int .i64 n ∧ I64 n := by
  obtain ⟨n, rfl, _, _, hw⟩ := open_int Tryz.underlying3 hv h
  refine ⟨n, rfl, ?_⟩
  simp [Lit.wf, IntKind.min, IntKind.max, IntKind.signed, IntKind.bits] at hw
  unfold I64
  omega
set_option maxRecDepth 10000 in
theorem open_u64 {H : Type} {enc : TypeId × Value → H} {W : World} {base : Nat} {spare : Nat → Bool} {held : Bool} {v : Value} {d : DataW H} {ps : List MemPlace} {r : Reach} {b0 : Nat} (hv : Value.okWide Tryz.prog W r b0 22 v) (h : DataW.Trod enc Tryz.prog W base spare held 22 v d ps) : ∃ n, v = .int .u64 n ∧ U64 n := by
  obtain ⟨n, rfl, _, _, hw⟩ := open_int Tryz.underlying22 hv h
  refine ⟨n, rfl, ?_⟩
  simp [Lit.wf, IntKind.min, IntKind.max, IntKind.signed, IntKind.bits] at hw
  unfold U64
  omega
end Go.Proofs.YtdiamknibfamdaaGreat
