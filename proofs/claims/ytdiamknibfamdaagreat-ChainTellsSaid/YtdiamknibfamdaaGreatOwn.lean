/- Copies in memory of their own: fragments, ledgers. -/
import Derived.Test.YtdiamknibfamdaaGreatSpec
import Derived.Test.YtdiamknibfamdaaGreatClone
namespace Go.Proofs.YtdiamknibfamdaaGreat
open Go.RowKit Go.Shelf

theorem grown_of_below {w w1 : World} (h : Below w.heap.size w w1) (row : Option Nat) : w.grownBy w1 row := ⟨h.os, h.tape, h.output, h.size, fun i hi _ => h.block i hi⟩
theorem own_below {w w1 : World} {base : Nat} {e : TypeId} {size n : Nat} {v : Value} {xs : List Value} (h : w.ownsRow base e size v n xs) (hb : Below w.heap.size w w1) : w1.ownsRow base e size v n xs := by
  refine h.kept (row := none) (grown_of_below hb _) ?_
  cases hv : v.ownBlock with
  | none => exact .inl rfl
  | some k => exact .inr (by simp)
theorem own_weaken {w : World} {base base' : Nat} {e : TypeId} {size n : Nat} {v : Value} {xs : List Value} (h : w.ownsRow base e size v n xs) (hb : base' ≤ base) : w.ownsRow base' e size v n xs := by
  obtain ⟨h1, h2 | ⟨g, cap, cur, hv, hg, r⟩⟩ := h
  · exact ⟨h1, .inl h2⟩
  · exact ⟨h1, .inr ⟨g, cap, cur, hv, Nat.le_trans hb hg, r⟩⟩
theorem own_set {w : World} {base : Nat} {e : TypeId} {size n : Nat} {v : Value} {xs : List Value} (h : w.ownsRow base e size v n xs) {p : Addr} (hne : some p.block ≠ v.ownBlock) (u : Value) : (w.setCell p u).ownsRow base e size v n xs := by
  obtain ⟨h1, h2 | ⟨g, cap, cur, rfl, hg, hh, r⟩⟩ := h
  · exact ⟨h1, .inl h2⟩
  · exact ⟨h1, .inr ⟨g, cap, cur, rfl, hg, by rw [Below.heap_setCell _ _ _ _ (fun e => hne (by rw [e]; rfl))]; exact hh, r⟩⟩
theorem own_lt {w : World} {base : Nat} {e : TypeId} {size n : Nat} {v : Value} {xs : List Value} (h : w.ownsRow base e size v n xs) {k : Nat} (hk : v.ownBlock = some k) : base ≤ k ∧ k < w.heap.size := by
  obtain ⟨_, ⟨rfl, _⟩ | ⟨g, cap, cur, rfl, hg, hh, _⟩⟩ := h
  · cases hk
  · cases hk
    exact ⟨hg, (Array.getElem?_eq_some_iff.1 hh).1⟩
/-- Rows of unlike elements lie in unlike blocks. -/
theorem own_types {w : World} {b b' : Nat} {e e' : TypeId} {s s' n n' : Nat} {v v' : Value} {xs xs' : List Value} (h : w.ownsRow b e s v n xs) (h' : w.ownsRow b' e' s' v' n' xs') (hne : e ≠ e') : v.ownBlock = none ∨ v.ownBlock ≠ v'.ownBlock := by
  obtain ⟨_, ⟨rfl, _⟩ | ⟨g, cap, cur, rfl, _, hh, _⟩⟩ := h
  · exact .inl rfl
  · refine .inr fun hk => ?_
    obtain ⟨_, ⟨rfl, _⟩ | ⟨g', cap', cur', rfl, _, hh', _⟩⟩ := h'
    · cases hk
    · cases hk
      rw [hh] at hh'
      cases hh'
      exact hne rfl

/-- A fragment whose bookies lie in memory of its own, from block 'base' on. -/
def FragOwn (base : Nat) (w : World) (f : FragR) : Prop := w.ownsRow base 59 2 (.slice f.bookies.a f.bookies.xs.length f.bookies.c) f.bookies.xs.length (f.bookies.xs.flatMap ePlace.enc)
def FragMade (f : FragR) (w : World) (e : Ending) (w' : World) : Prop := ∃ f' : FragR, e = .returned f'.v ∧ f'.d = f.d ∧ eFrag.ok w' f' ∧ FragOwn w.heap.size w' f' ∧ Below w.heap.size w w'

theorem bcell {W w1 : World} (hb : Below W.heap.size W w1) : (∀ b o, b < W.heap.size → w1.cell? ⟨b, o, none⟩ = W.cell? ⟨b, o, none⟩) ∧ (∀ b o, b < W.heap.size → w1.frozen? ⟨b, o, none⟩ = W.frozen? ⟨b, o, none⟩) :=
  ⟨fun b o h => hb.cell (p := ⟨b, o, none⟩) h, fun b o h => hb.frozen (p := ⟨b, o, none⟩) h⟩

theorem cells1 {w : World} {g : Nat} {t : TypeId} {v0 : Value} (h : w.heap[g]? = some (.cells #[v0] t (0, 0))) :
    w.cell? ⟨g, 0, none⟩ = some v0 ∧
    w.frozen? ⟨g, 0, none⟩ = false :=
  ⟨(by simp [World.cell?, h]), (by simp [World.frozen?, h])⟩
theorem cells2 {w : World} {g : Nat} {t : TypeId} {v0 v1 : Value} (h : w.heap[g]? = some (.cells #[v0, v1] t (0, 0))) :
    w.cell? ⟨g, 0, none⟩ = some v0 ∧ w.cell? ⟨g, 1, none⟩ = some v1 ∧
    w.frozen? ⟨g, 0, none⟩ = false ∧ w.frozen? ⟨g, 1, none⟩ = false :=
  ⟨(by simp [World.cell?, h]), (by simp [World.cell?, h]), (by simp [World.frozen?, h]), (by simp [World.frozen?, h])⟩
theorem cells3 {w : World} {g : Nat} {t : TypeId} {v0 v1 v2 : Value} (h : w.heap[g]? = some (.cells #[v0, v1, v2] t (0, 0))) :
    w.cell? ⟨g, 0, none⟩ = some v0 ∧ w.cell? ⟨g, 1, none⟩ = some v1 ∧ w.cell? ⟨g, 2, none⟩ = some v2 ∧
    w.frozen? ⟨g, 0, none⟩ = false ∧ w.frozen? ⟨g, 1, none⟩ = false ∧ w.frozen? ⟨g, 2, none⟩ = false :=
  ⟨(by simp [World.cell?, h]), (by simp [World.cell?, h]), (by simp [World.cell?, h]), (by simp [World.frozen?, h]), (by simp [World.frozen?, h]), (by simp [World.frozen?, h])⟩
theorem cells5 {w : World} {g : Nat} {t : TypeId} {v0 v1 v2 v3 v4 : Value} (h : w.heap[g]? = some (.cells #[v0, v1, v2, v3, v4] t (0, 0))) :
    w.cell? ⟨g, 0, none⟩ = some v0 ∧ w.cell? ⟨g, 1, none⟩ = some v1 ∧ w.cell? ⟨g, 2, none⟩ = some v2 ∧ w.cell? ⟨g, 3, none⟩ = some v3 ∧ w.cell? ⟨g, 4, none⟩ = some v4 ∧
    w.frozen? ⟨g, 0, none⟩ = false ∧ w.frozen? ⟨g, 1, none⟩ = false ∧ w.frozen? ⟨g, 2, none⟩ = false ∧ w.frozen? ⟨g, 3, none⟩ = false ∧ w.frozen? ⟨g, 4, none⟩ = false :=
  ⟨(by simp [World.cell?, h]), (by simp [World.cell?, h]), (by simp [World.cell?, h]), (by simp [World.cell?, h]), (by simp [World.cell?, h]), (by simp [World.frozen?, h]), (by simp [World.frozen?, h]), (by simp [World.frozen?, h]), (by simp [World.frozen?, h]), (by simp [World.frozen?, h])⟩
theorem cells6 {w : World} {g : Nat} {t : TypeId} {v0 v1 v2 v3 v4 v5 : Value} (h : w.heap[g]? = some (.cells #[v0, v1, v2, v3, v4, v5] t (0, 0))) :
    w.cell? ⟨g, 0, none⟩ = some v0 ∧ w.cell? ⟨g, 1, none⟩ = some v1 ∧ w.cell? ⟨g, 2, none⟩ = some v2 ∧ w.cell? ⟨g, 3, none⟩ = some v3 ∧ w.cell? ⟨g, 4, none⟩ = some v4 ∧ w.cell? ⟨g, 5, none⟩ = some v5 ∧
    w.frozen? ⟨g, 0, none⟩ = false ∧ w.frozen? ⟨g, 1, none⟩ = false ∧ w.frozen? ⟨g, 2, none⟩ = false ∧ w.frozen? ⟨g, 3, none⟩ = false ∧ w.frozen? ⟨g, 4, none⟩ = false ∧ w.frozen? ⟨g, 5, none⟩ = false :=
  ⟨(by simp [World.cell?, h]), (by simp [World.cell?, h]), (by simp [World.cell?, h]), (by simp [World.cell?, h]), (by simp [World.cell?, h]), (by simp [World.cell?, h]), (by simp [World.frozen?, h]), (by simp [World.frozen?, h]), (by simp [World.frozen?, h]), (by simp [World.frozen?, h]), (by simp [World.frozen?, h]), (by simp [World.frozen?, h])⟩
theorem cells8 {w : World} {g : Nat} {t : TypeId} {v0 v1 v2 v3 v4 v5 v6 v7 : Value} (h : w.heap[g]? = some (.cells #[v0, v1, v2, v3, v4, v5, v6, v7] t (0, 0))) :
    w.cell? ⟨g, 0, none⟩ = some v0 ∧ w.cell? ⟨g, 1, none⟩ = some v1 ∧ w.cell? ⟨g, 2, none⟩ = some v2 ∧ w.cell? ⟨g, 3, none⟩ = some v3 ∧ w.cell? ⟨g, 4, none⟩ = some v4 ∧ w.cell? ⟨g, 5, none⟩ = some v5 ∧ w.cell? ⟨g, 6, none⟩ = some v6 ∧ w.cell? ⟨g, 7, none⟩ = some v7 ∧
    w.frozen? ⟨g, 0, none⟩ = false ∧ w.frozen? ⟨g, 1, none⟩ = false ∧ w.frozen? ⟨g, 2, none⟩ = false ∧ w.frozen? ⟨g, 3, none⟩ = false ∧ w.frozen? ⟨g, 4, none⟩ = false ∧ w.frozen? ⟨g, 5, none⟩ = false ∧ w.frozen? ⟨g, 6, none⟩ = false ∧ w.frozen? ⟨g, 7, none⟩ = false :=
  ⟨(by simp [World.cell?, h]), (by simp [World.cell?, h]), (by simp [World.cell?, h]), (by simp [World.cell?, h]), (by simp [World.cell?, h]), (by simp [World.cell?, h]), (by simp [World.cell?, h]), (by simp [World.cell?, h]), (by simp [World.frozen?, h]), (by simp [World.frozen?, h]), (by simp [World.frozen?, h]), (by simp [World.frozen?, h]), (by simp [World.frozen?, h]), (by simp [World.frozen?, h]), (by simp [World.frozen?, h]), (by simp [World.frozen?, h])⟩
theorem cells9 {w : World} {g : Nat} {t : TypeId} {v0 v1 v2 v3 v4 v5 v6 v7 v8 : Value} (h : w.heap[g]? = some (.cells #[v0, v1, v2, v3, v4, v5, v6, v7, v8] t (0, 0))) :
    w.cell? ⟨g, 0, none⟩ = some v0 ∧ w.cell? ⟨g, 1, none⟩ = some v1 ∧ w.cell? ⟨g, 2, none⟩ = some v2 ∧ w.cell? ⟨g, 3, none⟩ = some v3 ∧ w.cell? ⟨g, 4, none⟩ = some v4 ∧ w.cell? ⟨g, 5, none⟩ = some v5 ∧ w.cell? ⟨g, 6, none⟩ = some v6 ∧ w.cell? ⟨g, 7, none⟩ = some v7 ∧ w.cell? ⟨g, 8, none⟩ = some v8 ∧
    w.frozen? ⟨g, 0, none⟩ = false ∧ w.frozen? ⟨g, 1, none⟩ = false ∧ w.frozen? ⟨g, 2, none⟩ = false ∧ w.frozen? ⟨g, 3, none⟩ = false ∧ w.frozen? ⟨g, 4, none⟩ = false ∧ w.frozen? ⟨g, 5, none⟩ = false ∧ w.frozen? ⟨g, 6, none⟩ = false ∧ w.frozen? ⟨g, 7, none⟩ = false ∧ w.frozen? ⟨g, 8, none⟩ = false :=
  ⟨(by simp [World.cell?, h]), (by simp [World.cell?, h]), (by simp [World.cell?, h]), (by simp [World.cell?, h]), (by simp [World.cell?, h]), (by simp [World.cell?, h]), (by simp [World.cell?, h]), (by simp [World.cell?, h]), (by simp [World.cell?, h]), (by simp [World.frozen?, h]), (by simp [World.frozen?, h]), (by simp [World.frozen?, h]), (by simp [World.frozen?, h]), (by simp [World.frozen?, h]), (by simp [World.frozen?, h]), (by simp [World.frozen?, h]), (by simp [World.frozen?, h]), (by simp [World.frozen?, h])⟩
theorem heap2_0 (w : World) (A B : Obj) : ((w.alloc A).alloc B).heap[w.heap.size]? = some A := by rw [heap_get, if_neg (by simp), heap_get, if_pos rfl]
theorem heap2_1 (w : World) (A B : Obj) : ((w.alloc A).alloc B).heap[w.heap.size + 1]? = some B := by rw [heap_get, if_pos (by simp)]

set_option maxHeartbeats 1000000 in
theorem closure138 (f : FragR) (w : World) (hf : eFrag.ok w f) (hb : f.bookies.xs.length * 16 ≤ 140737488355328) : Calls Tryz.prog 138 #[f.v] w (FragMade f w) := by
  obtain ⟨fi, s⟩ := f
  have hc := fun W (hW : Below w.heap.size w W) => clone85 s W (hf.2.mono hW) hb
  have hU : U64 fi := hf.1
  have HU : Hid _ := hU
  clear hf hU
  go_enter Tryz.func138, Tryz.ntmps138
  go_wp2_with (go_at_call 85; refine (hc _ (balloc (b1 _ _) _)).mono ?_; rintro e w1 ⟨a', c', rfl, hs', ho', hb'⟩; have B0 := cells2 ((hb'.block w.heap.size (by simp; omega)).trans (heap2_0 w _ _)); have B1 := cells2 ((hb'.block (w.heap.size + 1) (by simp)).trans (heap2_1 w _ _)); obtain ⟨c0, c1, f0, f1⟩ := B0; obtain ⟨d0, d1, g0, g1⟩ := B1; have hz : w.heap.size + 1 < w1.heap.size := (by have := hb'.size; simp at this; omega))
  have hne : ∀ k, Value.ownBlock (.slice a' s.xs.length c') = some k → w.heap.size + 2 ≤ k := fun k hk => by have := (own_lt ho' hk).1; simpa using this
  have o1 := own_set ho' (p := ⟨w.heap.size, 1, none⟩) (fun h => by have h2 := hne _ h.symm; dsimp only at h2; omega) (.slice a' s.xs.length c')
  have o2 := own_set o1 (p := ⟨w.heap.size + 1, 0, none⟩) (fun h => by have h2 := hne _ h.symm; dsimp only at h2; omega) (.int .u64 fi)
  have o3 := own_set o2 (p := ⟨w.heap.size + 1, 1, none⟩) (fun h => by have h2 := hne _ h.symm; dsimp only at h2; omega) (.slice a' s.xs.length c')
  have hbel := (((bthen (balloc (b1 w _) _) hb').setCell (p := ⟨w.heap.size, 1, none⟩) (Nat.le_refl _) (.slice a' s.xs.length c')).setCell (p := ⟨w.heap.size + 1, 0, none⟩) (Nat.le_succ _) (.int .u64 fi)).setCell (p := ⟨w.heap.size + 1, 1, none⟩) (Nat.le_succ _) (.slice a' s.xs.length c')
  obtain ⟨a2, c2, he2, hs2⟩ := own_ok o3 (fun x hx => hs'.ok x hx)
  cases he2
  exact bodyPost_ret (v := FragR.v ⟨fi, ⟨a', c', s.xs⟩⟩) (by simp [results, Tryz.results138, go_sem, d0, d1]) rfl ⟨⟨fi, ⟨a', c', s.xs⟩⟩, rfl, rfl, ⟨HU.out, hs2⟩, own_weaken o3 (by simp; omega), hbel⟩
def FragApart (f f' : FragR) : Prop := Value.ownBlock (.slice f.bookies.a f.bookies.xs.length f.bookies.c) = none ∨ Value.ownBlock (.slice f.bookies.a f.bookies.xs.length f.bookies.c) ≠ Value.ownBlock (.slice f'.bookies.a f'.bookies.xs.length f'.bookies.c)
theorem frag_ok {base : Nat} {w w' : World} {f : FragR} (h : FragOwn base w' f) (hf : eFrag.ok w f) : eFrag.ok w' f := by
  obtain ⟨a, c, hv, hs⟩ := own_ok (E := ePlace) h (fun x hx => hf.2.ok x hx)
  obtain ⟨fi, ⟨a', c', xs⟩⟩ := f
  cases hv
  exact ⟨hf.1, hs⟩
/-- Fragments so far copied. -/
def FragsSoFar (w wr : World) (xs : List FragR) (kk : Nat) (v : Value) : Prop :=
  ∃ ys : List FragR, ys.length = kk ∧ ys.map FragR.d = (xs.take kk).map FragR.d ∧ wr.ownsRow w.heap.size 113 2 v kk (ys.flatMap eFrag.enc) ∧ (∀ y ∈ ys, eFrag.ok wr y ∧ FragOwn w.heap.size wr y) ∧ ys.Pairwise FragApart ∧ Below w.heap.size w wr
theorem frags_start (w : World) (xs : List FragR) : FragsSoFar w w xs 0 (.slice none 0 0) := ⟨[], rfl, by simp, ⟨by simp, .inl ⟨rfl, rfl⟩⟩, (fun y h => by cases h), List.Pairwise.nil, Below.refl _ _⟩
theorem frags_step {w wr W w1 w3 : World} {xs ys : List FragR} {kk : Nat} {v v' : Value} {x f' : FragR} {o : Obj} (hx : xs[kk]? = some x)
    (hl : ys.length = kk) (hd : ys.map FragR.d = (xs.take kk).map FragR.d) (hown : wr.ownsRow w.heap.size 113 2 v kk (ys.flatMap eFrag.enc)) (hys : ∀ y ∈ ys, eFrag.ok wr y ∧ FragOwn w.heap.size wr y) (hap : ys.Pairwise FragApart) (hbel : Below w.heap.size w wr)
    (hW : Below wr.heap.size wr W) (hfd : f'.d = x.d) (hfo : eFrag.ok w1 f') (hfw : FragOwn W.heap.size w1 f') (hb' : Below W.heap.size W w1)
    (hown3 : w3.ownsRow w.heap.size 113 2 v' (kk + 1) (ys.flatMap eFrag.enc ++ eFrag.enc f')) (hg : (w1.alloc o).grownBy w3 v.ownBlock) : FragsSoFar w w3 xs (kk + 1) v' := by
  have k1 : Below wr.heap.size wr (w1.alloc o) := balloc (bthen hW hb') o
  have hownA := own_below hown k1
  have hne : ∀ k, v.ownBlock = some k → w.heap.size ≤ k := fun k hk => (own_lt hown hk).1
  have keep : ∀ (b : Nat) (y : FragR), FragOwn b (w1.alloc o) y → FragOwn b w3 y := fun b y h => h.kept hg (own_types h hownA (by decide))
  refine ⟨ys ++ [f'], by simp [hl], ?_, by simpa using hown3, ?_, ?_, ?_⟩
  · rw [List.take_add_one, hx]
    simp [hd, hfd]
  · intro y hy
    rcases List.mem_append.1 hy with h | h
    · have h1 := keep _ y (own_below (hys y h).2 k1)
      exact ⟨frag_ok h1 (hys y h).1, h1⟩
    · have : y = f' := by simpa using h
      subst this
      have h1 := keep _ y (own_weaken (own_below hfw (b1 w1 o)) (Nat.le_trans hbel.size hW.size))
      exact ⟨frag_ok h1 hfo, h1⟩
  · refine List.pairwise_append.2 ⟨hap, List.pairwise_singleton _ _, fun y hy z hz => ?_⟩
    have : z = f' := by simpa using hz
    subst this
    cases hb : Value.ownBlock (.slice y.bookies.a y.bookies.xs.length y.bookies.c) with
    | none => exact .inl hb
    | some k =>
      refine .inr fun he => ?_
      have h1 := (own_lt (hys y hy).2 hb).2
      rw [he] at hb
      have h2 := (own_lt hfw hb).1
      have h3 := hW.size
      omega
  · exact (bthen hbel k1).grown hg (Nat.le_trans hbel.size k1.size) (fun k hk => hne k hk)

theorem info113 : (Tryz.prog.info? 113).map (fun i => (i.zero, i.size, i.bytes)) = some (some (.agg #[.int .u64 0, .slice none 0 0]), 2, 32) := by kernel_rfl

/-- What came back of fragments: a row of its own, each with bookies of its own, apart. -/
def FragsMade (xs : List FragR) (w : World) (e : Ending) (w' : World) : Prop :=
  ∃ s : Sl FragR, e = .returned (.slice s.a s.xs.length s.c) ∧ s.xs.map FragR.d = xs.map FragR.d ∧ SlOk eFrag w' s ∧ w'.ownsRow w.heap.size 113 2 (.slice s.a s.xs.length s.c) s.xs.length (s.xs.flatMap eFrag.enc) ∧ (∀ y ∈ s.xs, FragOwn w.heap.size w' y) ∧ s.xs.Pairwise FragApart ∧ Below w.heap.size w w'
theorem frags_done {w wr : World} {xs : List FragR} {kk : Nat} {v : Value} (h : FragsSoFar w wr xs kk v) (hk : xs.length ≤ kk) : FragsMade xs w (.returned v) wr := by
  obtain ⟨ys, hl, hd, hown, hys, hap, hbel⟩ := h
  subst hl
  obtain ⟨a, c, rfl, hs⟩ := own_ok (E := eFrag) hown (fun y hy => (hys y hy).1)
  exact ⟨⟨a, c, ys⟩, rfl, by rw [hd, List.take_of_length_le hk], hs, hown, fun y hy => (hys y hy).2, hap, hbel⟩

theorem enters138 : ∀ args w, (callFunc 138 args).run Tryz.prog w = .ok (.enter 138 args) w := enters_of Tryz.func138 (by kernel_rfl) rfl
set_option maxHeartbeats 2000000 in
set_option maxRecDepth 100000 in
theorem mapped137 (s : Sl FragR) (w : World) (hs : SlOk eFrag w s) (hn : s.xs.length ≤ 1000000) (hb : ∀ x ∈ s.xs, x.bookies.xs.length * 16 ≤ 140737488355328) :
    Calls Tryz.prog 137 #[.slice s.a s.xs.length s.c, .func (.func 138) #[] #[]] w (FragsMade s.xs w) := by
  obtain ⟨i0, hi, hz0, hz1, hz2⟩ := info_parts info113
  obtain ⟨a, c, xs⟩ := s
  have hle := hs.le
  have hcap := hs.cap
  dsimp only at hb hn hle hcap ⊢
  go_enter Tryz.func137, Tryz.ntmps137
  go_wp2
  go_loopg [5, 10] xs.length (fun gg s5 s10 wr => ∃ kk : Nat, kk ≤ xs.length ∧ xs.length - kk ≤ gg ∧ s10 = .int .i64 kk ∧ Aside (FragsSoFar w wr xs kk s5))
  case atStart => exact ⟨0, Nat.zero_le _, by omega, rfl, frags_start w xs⟩
  case round =>
    obtain ⟨kk, hkk, hg, rfl, S⟩ := hrel
    by_cases hlt : kk < xs.length
    · obtain ⟨ys, hl, hd, hown, hys, hap, hbel⟩ := S.out
      obtain ⟨b, off, y, ha, hy, hblk, hat, hok⟩ := (hs.mono hbel).get (j := kk) hlt
      have hcl := fun W (hW : Below wr.heap.size wr W) => closure138 y W (eFrag.mono hok hW) (hb y (List.mem_of_getElem? hy))
      have hc := at_frag hat
      dsimp only at ha hy
      simp only [show eFrag.k = 2 from rfl] at hc
      obtain ⟨c0, c1⟩ := hc
      have HY : Hid _ := hy
      have HL : Hid _ := hl
      have HD : Hid _ := hd
      have HO : Aside _ := hown
      have HYS : Aside _ := hys
      have HAP : Aside _ := hap
      have HB : Aside _ := hbel
      have hbase : w.heap.size ≤ wr.heap.size := hbel.size
      clear hy hl hd hown hys hap hbel hat hok hs hb
      subst ha
      have hltz : (kk : Int) < (xs.length : Int) := by omega
      go_wp2_with (first | (go_at_call 138; refine (hcl _ (by exact b1 _ _)).mono ?_; rintro e w1 ⟨⟨f1, ⟨fa, fc, fx⟩⟩, rfl, hfd, hfo, hfw, hb'⟩; have HFD : Aside _ := hfd; have HFO : Aside _ := hfo; have HFW : Aside _ := hfw; have HBB : Aside _ := hb'; clear hfd hfo hfw hb') | (at_builtin; refine wpList_append_own _ rfl _ _ 57 rfl w.heap.size 113 i0 (.agg #[.int .u64 0, .slice none 0 0]) 2 32 Tryz.underlying57 hi hz0 hz1 hz2 rfl (by decide) _ kk _ rfl (own_below HO.out (balloc (bthen (b1 _ _) HBB.out) _)) ⟨w1.heap.size, 0, none⟩ 1 1 [.int .u64 f1, .slice fa fx.length fc] rfl rfl ?qc2 ?qc3 ?qc4 ?qc5 ?qc6 ?_))
      case qc2 =>
        intro j u hj
        match j, hj with
        | 0, hj => simp at hj; subst hj; simp [Addr.add_lit]
        | 1, hj => simp at hj; subst hj; simp [Addr.add_lit]
        | j + 2, hj => simp at hj
      case qc3 => intro u hu; simp at hu; rcases hu with rfl | rfl <;> rfl
      case qc4 => unfold maxLen; omega
      case qc5 => omega
      case qc6 => have h1 := HBB.out.size; simp at h1 ⊢; omega
      intro v' w3 hown3 hgrow hnil
      have hst := frags_step HY.out HL.out HD.out HO.out HYS.out HAP.out HB.out (b1 _ _) HFD.out HFO.out HFW.out HBB.out hown3 hgrow
      have HST : Aside _ := hst
      clear hst hown3 hgrow hnil
      go_wp2
      go_roundg (xs.length - (kk + 1))
      case measure => omega
      case rel => exact ⟨kk + 1, by omega, by omega, by go_num, HST.out⟩
    · have hltz : ¬ (kk : Int) < (xs.length : Int) := by omega
      clear hs hb
      go_wp2
      go_ret
      exact frags_done S.out (by omega)
end Go.Proofs.YtdiamknibfamdaaGreat
