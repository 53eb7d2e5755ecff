/- slices.IndexFunc and slices.ContainsFunc at the types of plans, at whatever predicate that only makes memory. -/
import Derived.Test.YtdiamknibfamdaaGreatBase
namespace Go.Proofs.YtdiamknibfamdaaGreat
open Go.RowKit Go.Shelf


/-- The first index at which p holds, or -1. -/
def idxB {α : Type} (p : α → Bool) (xs : List α) : Int := if xs.any p then (xs.findIdx p : Int) else -1
theorem idxB_hit {α : Type} (p : α → Bool) (xs : List α) (k : Nat) (y : α) (hy : xs[k]? = some y) (hp : p y = true) (h : ∀ j x, j < k → xs[j]? = some x → p x = false) : idxB p xs = (k : Int) := by
  have hk : k < xs.length := (List.getElem?_eq_some_iff.1 hy).1
  have he : xs[k] = y := (List.getElem?_eq_some_iff.1 hy).2
  have h1 : xs.findIdx p = k := by
    rw [List.findIdx_eq hk]
    exact ⟨by rw [he]; exact hp, fun j hj => h j _ hj (List.getElem?_eq_getElem _)⟩
  have h2 : xs.any p = true := List.any_eq_true.2 ⟨y, List.mem_of_getElem? hy, hp⟩
  simp [idxB, h1, h2]
theorem idxB_miss {α : Type} (p : α → Bool) (xs : List α) (k : Nat) (hk : xs.length ≤ k) (h : ∀ j x, j < k → xs[j]? = some x → p x = false) : idxB p xs = -1 := by
  have h2 : xs.any p = false := by
    rw [List.any_eq_false]
    intro x hx
    obtain ⟨j, hj, rfl⟩ := List.getElem_of_mem hx
    have := h j xs[j] (by omega) (List.getElem?_eq_getElem hj)
    simp [this]
  simp [idxB, h2]
theorem idxB_nonneg {α : Type} (p : α → Bool) (xs : List α) : decide (0 ≤ idxB p xs) = xs.any p := by
  unfold idxB
  split <;> simp_all <;> omega
theorem below_step {α : Type} (p : α → Bool) (xs : List α) (k : Nat) (y : α) (hy : xs[k]? = some y) (hp : p y = false) (h : ∀ j x, j < k → xs[j]? = some x → p x = false) : ∀ j x, j < k + 1 → xs[j]? = some x → p x = false := by
  intro j x hj hx
  by_cases e : j = k
  · subst e; rw [hy] at hx; cases hx; exact hp
  · exact h j x (by omega) hx

set_option maxHeartbeats 1000000 in
theorem indexFunc88 (s : Sl LedgerR) (p : LedgerR → Bool) (g : Nat) (lb : Array Value) (eg : ∀ args w, (callFunc g args).run Tryz.prog w = .ok (.enter g args) w) (w : World) (hs : SlOk eLedger w s)
    (hp : ∀ W x, x ∈ s.xs → Below w.heap.size w W → Calls Tryz.prog g (#[x.v] ++ lb) W fun e w' => e = .returned (.bool (p x)) ∧ Below W.heap.size W w') :
    Calls Tryz.prog 88 #[.slice s.a s.xs.length s.c, .func (.func g) #[] lb] w fun e w' => e = .returned (.int .i64 (idxB p s.xs)) ∧ Below w.heap.size w w' := by
  obtain ⟨a, c, xs⟩ := s
  dsimp only at hp ⊢
  have hle := hs.le
  have hcap := hs.cap
  dsimp only at hle hcap
  go_enter Tryz.func88, Tryz.ntmps88
  go_wp2
  go_loopg [5, 8] xs.length (fun gg _ s8 wr => ∃ kk : Nat, kk ≤ xs.length ∧ xs.length - kk ≤ gg ∧ s8 = .int .i64 kk ∧ Aside (Below w.heap.size w wr) ∧ Aside (∀ j x, j < kk → xs[j]? = some x → p x = false))
  case atStart => exact ⟨0, Nat.zero_le _, by omega, rfl, Below.refl _ w, fun j x hj => absurd hj (Nat.not_lt_zero _)⟩
  case round =>
    obtain ⟨kk, hkk, hg, rfl, BW, A⟩ := hrel
    by_cases hlt : kk < xs.length
    · obtain ⟨b, off, y, ha, hy, hb, hat, hok⟩ := (hs.mono BW.out).get hlt
      have hcall := hp wr y (List.mem_of_getElem? hy) BW.out
      have hc := at_ledger hat
      dsimp only at ha hc
      simp only [show eLedger.k = 6 from rfl] at hc
      obtain ⟨c0, c1, c2, c3, c4, c5⟩ := hc
      have HY : Hid _ := hy
      clear hy hp hat hok hs
      subst ha
      have hltz : (kk : Int) < (xs.length : Int) := by omega
      cases hq : p y with
      | true =>
        rw [hq] at hcall
        have HQ : Hid _ := hq
        clear hq
        go_wp2_with (go_at_fn g; refine hcall.mono ?_; rintro e w' ⟨rfl, hb'⟩)
        go_ret
        exact ⟨ret_i64 (idxB_hit p xs kk y HY.out HQ.out A.out).symm, bthen BW.out hb'⟩
      | false =>
        rw [hq] at hcall
        have HQ : Hid _ := hq
        clear hq
        go_wp2_with (go_at_fn g; refine hcall.mono ?_; rintro e w' ⟨rfl, hb'⟩)
        go_roundg (xs.length - (kk + 1))
        case measure => omega
        case rel => exact ⟨kk + 1, by omega, by omega, by go_num, bthen BW.out hb', below_step p xs kk y HY.out HQ.out A.out⟩
    · have hltz : ¬ (kk : Int) < (xs.length : Int) := by omega
      clear hp
      go_wp2
      go_ret
      exact ⟨ret_i64 (idxB_miss p xs kk (by omega) A.out).symm, BW.out⟩

theorem containsFunc98 (s : Sl LedgerR) (p : LedgerR → Bool) (g : Nat) (lb : Array Value) (eg : ∀ args w, (callFunc g args).run Tryz.prog w = .ok (.enter g args) w) (w : World) (hs : SlOk eLedger w s)
    (hp : ∀ W x, x ∈ s.xs → Below w.heap.size w W → Calls Tryz.prog g (#[x.v] ++ lb) W fun e w' => e = .returned (.bool (p x)) ∧ Below W.heap.size W w') :
    Calls Tryz.prog 98 #[.slice s.a s.xs.length s.c, .func (.func g) #[] lb] w fun e w' => e = .returned (.bool (s.xs.any p)) ∧ Below w.heap.size w w' := by
  have hcall := indexFunc88 s p g lb eg w hs hp
  rw [← idxB_nonneg p s.xs]
  generalize idxB p s.xs = r at hcall ⊢
  clear hp hs eg
  go_enter Tryz.func98, Tryz.ntmps98
  go_wp2_with (go_at_call 88; refine hcall.mono ?_; rintro e w' ⟨rfl, hb'⟩)
  go_ret
  exact ⟨rfl, hb'⟩

set_option maxHeartbeats 1000000 in
theorem indexFunc226 (s : Sl FragR) (p : FragR → Bool) (g : Nat) (lb : Array Value) (eg : ∀ args w, (callFunc g args).run Tryz.prog w = .ok (.enter g args) w) (w : World) (hs : SlOk eFrag w s)
    (hp : ∀ W x, x ∈ s.xs → Below w.heap.size w W → Calls Tryz.prog g (#[x.v] ++ lb) W fun e w' => e = .returned (.bool (p x)) ∧ Below W.heap.size W w') :
    Calls Tryz.prog 226 #[.slice s.a s.xs.length s.c, .func (.func g) #[] lb] w fun e w' => e = .returned (.int .i64 (idxB p s.xs)) ∧ Below w.heap.size w w' := by
  obtain ⟨a, c, xs⟩ := s
  dsimp only at hp ⊢
  have hle := hs.le
  have hcap := hs.cap
  dsimp only at hle hcap
  go_enter Tryz.func226, Tryz.ntmps226
  go_wp2
  go_loopg [5, 8] xs.length (fun gg _ s8 wr => ∃ kk : Nat, kk ≤ xs.length ∧ xs.length - kk ≤ gg ∧ s8 = .int .i64 kk ∧ Aside (Below w.heap.size w wr) ∧ Aside (∀ j x, j < kk → xs[j]? = some x → p x = false))
  case atStart => exact ⟨0, Nat.zero_le _, by omega, rfl, Below.refl _ w, fun j x hj => absurd hj (Nat.not_lt_zero _)⟩
  case round =>
    obtain ⟨kk, hkk, hg, rfl, BW, A⟩ := hrel
    by_cases hlt : kk < xs.length
    · obtain ⟨b, off, y, ha, hy, hb, hat, hok⟩ := (hs.mono BW.out).get hlt
      have hcall := hp wr y (List.mem_of_getElem? hy) BW.out
      have hc := at_frag hat
      dsimp only at ha hc
      simp only [show eFrag.k = 2 from rfl] at hc
      obtain ⟨c0, c1⟩ := hc
      have HY : Hid _ := hy
      clear hy hp hat hok hs
      subst ha
      have hltz : (kk : Int) < (xs.length : Int) := by omega
      cases hq : p y with
      | true =>
        rw [hq] at hcall
        have HQ : Hid _ := hq
        clear hq
        go_wp2_with (go_at_fn g; refine hcall.mono ?_; rintro e w' ⟨rfl, hb'⟩)
        go_ret
        exact ⟨ret_i64 (idxB_hit p xs kk y HY.out HQ.out A.out).symm, bthen BW.out hb'⟩
      | false =>
        rw [hq] at hcall
        have HQ : Hid _ := hq
        clear hq
        go_wp2_with (go_at_fn g; refine hcall.mono ?_; rintro e w' ⟨rfl, hb'⟩)
        go_roundg (xs.length - (kk + 1))
        case measure => omega
        case rel => exact ⟨kk + 1, by omega, by omega, by go_num, bthen BW.out hb', below_step p xs kk y HY.out HQ.out A.out⟩
    · have hltz : ¬ (kk : Int) < (xs.length : Int) := by omega
      clear hp
      go_wp2
      go_ret
      exact ⟨ret_i64 (idxB_miss p xs kk (by omega) A.out).symm, BW.out⟩

theorem containsFunc192 (s : Sl FragR) (p : FragR → Bool) (g : Nat) (lb : Array Value) (eg : ∀ args w, (callFunc g args).run Tryz.prog w = .ok (.enter g args) w) (w : World) (hs : SlOk eFrag w s)
    (hp : ∀ W x, x ∈ s.xs → Below w.heap.size w W → Calls Tryz.prog g (#[x.v] ++ lb) W fun e w' => e = .returned (.bool (p x)) ∧ Below W.heap.size W w') :
    Calls Tryz.prog 192 #[.slice s.a s.xs.length s.c, .func (.func g) #[] lb] w fun e w' => e = .returned (.bool (s.xs.any p)) ∧ Below w.heap.size w w' := by
  have hcall := indexFunc226 s p g lb eg w hs hp
  rw [← idxB_nonneg p s.xs]
  generalize idxB p s.xs = r at hcall ⊢
  clear hp hs eg
  go_enter Tryz.func192, Tryz.ntmps192
  go_wp2_with (go_at_call 226; refine hcall.mono ?_; rintro e w' ⟨rfl, hb'⟩)
  go_ret
  exact ⟨rfl, hb'⟩

set_option maxHeartbeats 1000000 in
theorem indexFunc186 (s : Sl Place) (p : Place → Bool) (g : Nat) (lb : Array Value) (eg : ∀ args w, (callFunc g args).run Tryz.prog w = .ok (.enter g args) w) (w : World) (hs : SlOk ePlace w s)
    (hp : ∀ W x, x ∈ s.xs → Below w.heap.size w W → Calls Tryz.prog g (#[x.v] ++ lb) W fun e w' => e = .returned (.bool (p x)) ∧ Below W.heap.size W w') :
    Calls Tryz.prog 186 #[.slice s.a s.xs.length s.c, .func (.func g) #[] lb] w fun e w' => e = .returned (.int .i64 (idxB p s.xs)) ∧ Below w.heap.size w w' := by
  obtain ⟨a, c, xs⟩ := s
  dsimp only at hp ⊢
  have hle := hs.le
  have hcap := hs.cap
  dsimp only at hle hcap
  go_enter Tryz.func186, Tryz.ntmps186
  go_wp2
  go_loopg [5, 8] xs.length (fun gg _ s8 wr => ∃ kk : Nat, kk ≤ xs.length ∧ xs.length - kk ≤ gg ∧ s8 = .int .i64 kk ∧ Aside (Below w.heap.size w wr) ∧ Aside (∀ j x, j < kk → xs[j]? = some x → p x = false))
  case atStart => exact ⟨0, Nat.zero_le _, by omega, rfl, Below.refl _ w, fun j x hj => absurd hj (Nat.not_lt_zero _)⟩
  case round =>
    obtain ⟨kk, hkk, hg, rfl, BW, A⟩ := hrel
    by_cases hlt : kk < xs.length
    · obtain ⟨b, off, y, ha, hy, hb, hat, hok⟩ := (hs.mono BW.out).get hlt
      have hcall := hp wr y (List.mem_of_getElem? hy) BW.out
      have hc := at_place hat
      dsimp only at ha hc
      simp only [show ePlace.k = 2 from rfl] at hc
      obtain ⟨c0, c1⟩ := hc
      have HY : Hid _ := hy
      clear hy hp hat hok hs
      subst ha
      have hltz : (kk : Int) < (xs.length : Int) := by omega
      cases hq : p y with
      | true =>
        rw [hq] at hcall
        have HQ : Hid _ := hq
        clear hq
        go_wp2_with (go_at_fn g; refine hcall.mono ?_; rintro e w' ⟨rfl, hb'⟩)
        go_ret
        exact ⟨ret_i64 (idxB_hit p xs kk y HY.out HQ.out A.out).symm, bthen BW.out hb'⟩
      | false =>
        rw [hq] at hcall
        have HQ : Hid _ := hq
        clear hq
        go_wp2_with (go_at_fn g; refine hcall.mono ?_; rintro e w' ⟨rfl, hb'⟩)
        go_roundg (xs.length - (kk + 1))
        case measure => omega
        case rel => exact ⟨kk + 1, by omega, by omega, by go_num, bthen BW.out hb', below_step p xs kk y HY.out HQ.out A.out⟩
    · have hltz : ¬ (kk : Int) < (xs.length : Int) := by omega
      clear hp
      go_wp2
      go_ret
      exact ⟨ret_i64 (idxB_miss p xs kk (by omega) A.out).symm, BW.out⟩

theorem containsFunc135 (s : Sl Place) (p : Place → Bool) (g : Nat) (lb : Array Value) (eg : ∀ args w, (callFunc g args).run Tryz.prog w = .ok (.enter g args) w) (w : World) (hs : SlOk ePlace w s)
    (hp : ∀ W x, x ∈ s.xs → Below w.heap.size w W → Calls Tryz.prog g (#[x.v] ++ lb) W fun e w' => e = .returned (.bool (p x)) ∧ Below W.heap.size W w') :
    Calls Tryz.prog 135 #[.slice s.a s.xs.length s.c, .func (.func g) #[] lb] w fun e w' => e = .returned (.bool (s.xs.any p)) ∧ Below w.heap.size w w' := by
  have hcall := indexFunc186 s p g lb eg w hs hp
  rw [← idxB_nonneg p s.xs]
  generalize idxB p s.xs = r at hcall ⊢
  clear hp hs eg
  go_enter Tryz.func135, Tryz.ntmps135
  go_wp2_with (go_at_call 186; refine hcall.mono ?_; rintro e w' ⟨rfl, hb'⟩)
  go_ret
  exact ⟨rfl, hb'⟩

set_option maxHeartbeats 1000000 in
theorem indexFunc237 (s : Sl Mark) (p : Mark → Bool) (g : Nat) (lb : Array Value) (eg : ∀ args w, (callFunc g args).run Tryz.prog w = .ok (.enter g args) w) (w : World) (hs : SlOk eMark w s)
    (hp : ∀ W x, x ∈ s.xs → Below w.heap.size w W → Calls Tryz.prog g (#[x.v] ++ lb) W fun e w' => e = .returned (.bool (p x)) ∧ Below W.heap.size W w') :
    Calls Tryz.prog 237 #[.slice s.a s.xs.length s.c, .func (.func g) #[] lb] w fun e w' => e = .returned (.int .i64 (idxB p s.xs)) ∧ Below w.heap.size w w' := by
  obtain ⟨a, c, xs⟩ := s
  dsimp only at hp ⊢
  have hle := hs.le
  have hcap := hs.cap
  dsimp only at hle hcap
  go_enter Tryz.func237, Tryz.ntmps237
  go_wp2
  go_loopg [5, 8] xs.length (fun gg _ s8 wr => ∃ kk : Nat, kk ≤ xs.length ∧ xs.length - kk ≤ gg ∧ s8 = .int .i64 kk ∧ Aside (Below w.heap.size w wr) ∧ Aside (∀ j x, j < kk → xs[j]? = some x → p x = false))
  case atStart => exact ⟨0, Nat.zero_le _, by omega, rfl, Below.refl _ w, fun j x hj => absurd hj (Nat.not_lt_zero _)⟩
  case round =>
    obtain ⟨kk, hkk, hg, rfl, BW, A⟩ := hrel
    by_cases hlt : kk < xs.length
    · obtain ⟨b, off, y, ha, hy, hb, hat, hok⟩ := (hs.mono BW.out).get hlt
      have hcall := hp wr y (List.mem_of_getElem? hy) BW.out
      have hc := at_mark hat
      dsimp only at ha hc
      simp only [show eMark.k = 3 from rfl] at hc
      obtain ⟨c0, c1, c2⟩ := hc
      have HY : Hid _ := hy
      clear hy hp hat hok hs
      subst ha
      have hltz : (kk : Int) < (xs.length : Int) := by omega
      cases hq : p y with
      | true =>
        rw [hq] at hcall
        have HQ : Hid _ := hq
        clear hq
        go_wp2_with (go_at_fn g; refine hcall.mono ?_; rintro e w' ⟨rfl, hb'⟩)
        go_ret
        exact ⟨ret_i64 (idxB_hit p xs kk y HY.out HQ.out A.out).symm, bthen BW.out hb'⟩
      | false =>
        rw [hq] at hcall
        have HQ : Hid _ := hq
        clear hq
        go_wp2_with (go_at_fn g; refine hcall.mono ?_; rintro e w' ⟨rfl, hb'⟩)
        go_roundg (xs.length - (kk + 1))
        case measure => omega
        case rel => exact ⟨kk + 1, by omega, by omega, by go_num, bthen BW.out hb', below_step p xs kk y HY.out HQ.out A.out⟩
    · have hltz : ¬ (kk : Int) < (xs.length : Int) := by omega
      clear hp
      go_wp2
      go_ret
      exact ⟨ret_i64 (idxB_miss p xs kk (by omega) A.out).symm, BW.out⟩

theorem containsFunc201 (s : Sl Mark) (p : Mark → Bool) (g : Nat) (lb : Array Value) (eg : ∀ args w, (callFunc g args).run Tryz.prog w = .ok (.enter g args) w) (w : World) (hs : SlOk eMark w s)
    (hp : ∀ W x, x ∈ s.xs → Below w.heap.size w W → Calls Tryz.prog g (#[x.v] ++ lb) W fun e w' => e = .returned (.bool (p x)) ∧ Below W.heap.size W w') :
    Calls Tryz.prog 201 #[.slice s.a s.xs.length s.c, .func (.func g) #[] lb] w fun e w' => e = .returned (.bool (s.xs.any p)) ∧ Below w.heap.size w w' := by
  have hcall := indexFunc237 s p g lb eg w hs hp
  rw [← idxB_nonneg p s.xs]
  generalize idxB p s.xs = r at hcall ⊢
  clear hp hs eg
  go_enter Tryz.func201, Tryz.ntmps201
  go_wp2_with (go_at_call 237; refine hcall.mono ?_; rintro e w' ⟨rfl, hb'⟩)
  go_ret
  exact ⟨rfl, hb'⟩

set_option maxHeartbeats 1000000 in
theorem indexFunc203 (s : Sl Cursor) (p : Cursor → Bool) (g : Nat) (lb : Array Value) (eg : ∀ args w, (callFunc g args).run Tryz.prog w = .ok (.enter g args) w) (w : World) (hs : SlOk eCursor w s)
    (hp : ∀ W x, x ∈ s.xs → Below w.heap.size w W → Calls Tryz.prog g (#[x.v] ++ lb) W fun e w' => e = .returned (.bool (p x)) ∧ Below W.heap.size W w') :
    Calls Tryz.prog 203 #[.slice s.a s.xs.length s.c, .func (.func g) #[] lb] w fun e w' => e = .returned (.int .i64 (idxB p s.xs)) ∧ Below w.heap.size w w' := by
  obtain ⟨a, c, xs⟩ := s
  dsimp only at hp ⊢
  have hle := hs.le
  have hcap := hs.cap
  dsimp only at hle hcap
  go_enter Tryz.func203, Tryz.ntmps203
  go_wp2
  go_loopg [5, 8] xs.length (fun gg _ s8 wr => ∃ kk : Nat, kk ≤ xs.length ∧ xs.length - kk ≤ gg ∧ s8 = .int .i64 kk ∧ Aside (Below w.heap.size w wr) ∧ Aside (∀ j x, j < kk → xs[j]? = some x → p x = false))
  case atStart => exact ⟨0, Nat.zero_le _, by omega, rfl, Below.refl _ w, fun j x hj => absurd hj (Nat.not_lt_zero _)⟩
  case round =>
    obtain ⟨kk, hkk, hg, rfl, BW, A⟩ := hrel
    by_cases hlt : kk < xs.length
    · obtain ⟨b, off, y, ha, hy, hb, hat, hok⟩ := (hs.mono BW.out).get hlt
      have hcall := hp wr y (List.mem_of_getElem? hy) BW.out
      have hc := at_cursor hat
      dsimp only at ha hc
      simp only [show eCursor.k = 2 from rfl] at hc
      obtain ⟨c0, c1⟩ := hc
      have HY : Hid _ := hy
      clear hy hp hat hok hs
      subst ha
      have hltz : (kk : Int) < (xs.length : Int) := by omega
      cases hq : p y with
      | true =>
        rw [hq] at hcall
        have HQ : Hid _ := hq
        clear hq
        go_wp2_with (go_at_fn g; refine hcall.mono ?_; rintro e w' ⟨rfl, hb'⟩)
        go_ret
        exact ⟨ret_i64 (idxB_hit p xs kk y HY.out HQ.out A.out).symm, bthen BW.out hb'⟩
      | false =>
        rw [hq] at hcall
        have HQ : Hid _ := hq
        clear hq
        go_wp2_with (go_at_fn g; refine hcall.mono ?_; rintro e w' ⟨rfl, hb'⟩)
        go_roundg (xs.length - (kk + 1))
        case measure => omega
        case rel => exact ⟨kk + 1, by omega, by omega, by go_num, bthen BW.out hb', below_step p xs kk y HY.out HQ.out A.out⟩
    · have hltz : ¬ (kk : Int) < (xs.length : Int) := by omega
      clear hp
      go_wp2
      go_ret
      exact ⟨ret_i64 (idxB_miss p xs kk (by omega) A.out).symm, BW.out⟩

theorem containsFunc164 (s : Sl Cursor) (p : Cursor → Bool) (g : Nat) (lb : Array Value) (eg : ∀ args w, (callFunc g args).run Tryz.prog w = .ok (.enter g args) w) (w : World) (hs : SlOk eCursor w s)
    (hp : ∀ W x, x ∈ s.xs → Below w.heap.size w W → Calls Tryz.prog g (#[x.v] ++ lb) W fun e w' => e = .returned (.bool (p x)) ∧ Below W.heap.size W w') :
    Calls Tryz.prog 164 #[.slice s.a s.xs.length s.c, .func (.func g) #[] lb] w fun e w' => e = .returned (.bool (s.xs.any p)) ∧ Below w.heap.size w w' := by
  have hcall := indexFunc203 s p g lb eg w hs hp
  rw [← idxB_nonneg p s.xs]
  generalize idxB p s.xs = r at hcall ⊢
  clear hp hs eg
  go_enter Tryz.func164, Tryz.ntmps164
  go_wp2_with (go_at_call 203; refine hcall.mono ?_; rintro e w' ⟨rfl, hb'⟩)
  go_ret
  exact ⟨rfl, hb'⟩

set_option maxHeartbeats 1000000 in
theorem indexFunc166 (s : Sl Past) (p : Past → Bool) (g : Nat) (lb : Array Value) (eg : ∀ args w, (callFunc g args).run Tryz.prog w = .ok (.enter g args) w) (w : World) (hs : SlOk ePast w s)
    (hp : ∀ W x, x ∈ s.xs → Below w.heap.size w W → Calls Tryz.prog g (#[x.v] ++ lb) W fun e w' => e = .returned (.bool (p x)) ∧ Below W.heap.size W w') :
    Calls Tryz.prog 166 #[.slice s.a s.xs.length s.c, .func (.func g) #[] lb] w fun e w' => e = .returned (.int .i64 (idxB p s.xs)) ∧ Below w.heap.size w w' := by
  obtain ⟨a, c, xs⟩ := s
  dsimp only at hp ⊢
  have hle := hs.le
  have hcap := hs.cap
  dsimp only at hle hcap
  go_enter Tryz.func166, Tryz.ntmps166
  go_wp2
  go_loopg [5, 8] xs.length (fun gg _ s8 wr => ∃ kk : Nat, kk ≤ xs.length ∧ xs.length - kk ≤ gg ∧ s8 = .int .i64 kk ∧ Aside (Below w.heap.size w wr) ∧ Aside (∀ j x, j < kk → xs[j]? = some x → p x = false))
  case atStart => exact ⟨0, Nat.zero_le _, by omega, rfl, Below.refl _ w, fun j x hj => absurd hj (Nat.not_lt_zero _)⟩
  case round =>
    obtain ⟨kk, hkk, hg, rfl, BW, A⟩ := hrel
    by_cases hlt : kk < xs.length
    · obtain ⟨b, off, y, ha, hy, hb, hat, hok⟩ := (hs.mono BW.out).get hlt
      have hcall := hp wr y (List.mem_of_getElem? hy) BW.out
      have hc := at_past hat
      dsimp only at ha hc
      simp only [show ePast.k = 8 from rfl] at hc
      obtain ⟨c0, c1, c2, c3, c4, c5, c6, c7⟩ := hc
      have HY : Hid _ := hy
      clear hy hp hat hok hs
      subst ha
      have hltz : (kk : Int) < (xs.length : Int) := by omega
      cases hq : p y with
      | true =>
        rw [hq] at hcall
        have HQ : Hid _ := hq
        clear hq
        go_wp2_with (go_at_fn g; refine hcall.mono ?_; rintro e w' ⟨rfl, hb'⟩)
        go_ret
        exact ⟨ret_i64 (idxB_hit p xs kk y HY.out HQ.out A.out).symm, bthen BW.out hb'⟩
      | false =>
        rw [hq] at hcall
        have HQ : Hid _ := hq
        clear hq
        go_wp2_with (go_at_fn g; refine hcall.mono ?_; rintro e w' ⟨rfl, hb'⟩)
        go_roundg (xs.length - (kk + 1))
        case measure => omega
        case rel => exact ⟨kk + 1, by omega, by omega, by go_num, bthen BW.out hb', below_step p xs kk y HY.out HQ.out A.out⟩
    · have hltz : ¬ (kk : Int) < (xs.length : Int) := by omega
      clear hp
      go_wp2
      go_ret
      exact ⟨ret_i64 (idxB_miss p xs kk (by omega) A.out).symm, BW.out⟩

theorem containsFunc109 (s : Sl Past) (p : Past → Bool) (g : Nat) (lb : Array Value) (eg : ∀ args w, (callFunc g args).run Tryz.prog w = .ok (.enter g args) w) (w : World) (hs : SlOk ePast w s)
    (hp : ∀ W x, x ∈ s.xs → Below w.heap.size w W → Calls Tryz.prog g (#[x.v] ++ lb) W fun e w' => e = .returned (.bool (p x)) ∧ Below W.heap.size W w') :
    Calls Tryz.prog 109 #[.slice s.a s.xs.length s.c, .func (.func g) #[] lb] w fun e w' => e = .returned (.bool (s.xs.any p)) ∧ Below w.heap.size w w' := by
  have hcall := indexFunc166 s p g lb eg w hs hp
  rw [← idxB_nonneg p s.xs]
  generalize idxB p s.xs = r at hcall ⊢
  clear hp hs eg
  go_enter Tryz.func109, Tryz.ntmps109
  go_wp2_with (go_at_call 166; refine hcall.mono ?_; rintro e w' ⟨rfl, hb'⟩)
  go_ret
  exact ⟨rfl, hb'⟩

set_option maxHeartbeats 1000000 in
theorem indexFunc150 (s : Sl Int) (p : Int → Bool) (g : Nat) (lb : Array Value) (eg : ∀ args w, (callFunc g args).run Tryz.prog w = .ok (.enter g args) w) (w : World) (hs : SlOk eU64 w s)
    (hp : ∀ W x, x ∈ s.xs → Below w.heap.size w W → Calls Tryz.prog g (#[.int .u64 x] ++ lb) W fun e w' => e = .returned (.bool (p x)) ∧ Below W.heap.size W w') :
    Calls Tryz.prog 150 #[.slice s.a s.xs.length s.c, .func (.func g) #[] lb] w fun e w' => e = .returned (.int .i64 (idxB p s.xs)) ∧ Below w.heap.size w w' := by
  obtain ⟨a, c, xs⟩ := s
  dsimp only at hp ⊢
  have hle := hs.le
  have hcap := hs.cap
  dsimp only at hle hcap
  go_enter Tryz.func150, Tryz.ntmps150
  go_wp2
  go_loopg [5, 8] xs.length (fun gg _ s8 wr => ∃ kk : Nat, kk ≤ xs.length ∧ xs.length - kk ≤ gg ∧ s8 = .int .i64 kk ∧ Aside (Below w.heap.size w wr) ∧ Aside (∀ j x, j < kk → xs[j]? = some x → p x = false))
  case atStart => exact ⟨0, Nat.zero_le _, by omega, rfl, Below.refl _ w, fun j x hj => absurd hj (Nat.not_lt_zero _)⟩
  case round =>
    obtain ⟨kk, hkk, hg, rfl, BW, A⟩ := hrel
    by_cases hlt : kk < xs.length
    · obtain ⟨b, off, y, ha, hy, hb, hat, hok⟩ := (hs.mono BW.out).get hlt
      have hcall := hp wr y (List.mem_of_getElem? hy) BW.out
      have hc := at_u64 hat
      dsimp only at ha hc
      simp only [show eU64.k = 1 from rfl, Nat.mul_one] at hc
      have c0 := hc
      have HY : Hid _ := hy
      clear hy hp hat hok hs
      subst ha
      have hltz : (kk : Int) < (xs.length : Int) := by omega
      cases hq : p y with
      | true =>
        rw [hq] at hcall
        have HQ : Hid _ := hq
        clear hq
        go_wp2_with (go_at_fn g; refine hcall.mono ?_; rintro e w' ⟨rfl, hb'⟩)
        go_ret
        exact ⟨ret_i64 (idxB_hit p xs kk y HY.out HQ.out A.out).symm, bthen BW.out hb'⟩
      | false =>
        rw [hq] at hcall
        have HQ : Hid _ := hq
        clear hq
        go_wp2_with (go_at_fn g; refine hcall.mono ?_; rintro e w' ⟨rfl, hb'⟩)
        go_roundg (xs.length - (kk + 1))
        case measure => omega
        case rel => exact ⟨kk + 1, by omega, by omega, by go_num, bthen BW.out hb', below_step p xs kk y HY.out HQ.out A.out⟩
    · have hltz : ¬ (kk : Int) < (xs.length : Int) := by omega
      clear hp
      go_wp2
      go_ret
      exact ⟨ret_i64 (idxB_miss p xs kk (by omega) A.out).symm, BW.out⟩

theorem containsFunc96 (s : Sl Int) (p : Int → Bool) (g : Nat) (lb : Array Value) (eg : ∀ args w, (callFunc g args).run Tryz.prog w = .ok (.enter g args) w) (w : World) (hs : SlOk eU64 w s)
    (hp : ∀ W x, x ∈ s.xs → Below w.heap.size w W → Calls Tryz.prog g (#[.int .u64 x] ++ lb) W fun e w' => e = .returned (.bool (p x)) ∧ Below W.heap.size W w') :
    Calls Tryz.prog 96 #[.slice s.a s.xs.length s.c, .func (.func g) #[] lb] w fun e w' => e = .returned (.bool (s.xs.any p)) ∧ Below w.heap.size w w' := by
  have hcall := indexFunc150 s p g lb eg w hs hp
  rw [← idxB_nonneg p s.xs]
  generalize idxB p s.xs = r at hcall ⊢
  clear hp hs eg
  go_enter Tryz.func96, Tryz.ntmps96
  go_wp2_with (go_at_call 150; refine hcall.mono ?_; rintro e w' ⟨rfl, hb'⟩)
  go_ret
  exact ⟨rfl, hb'⟩

end Go.Proofs.YtdiamknibfamdaaGreat
