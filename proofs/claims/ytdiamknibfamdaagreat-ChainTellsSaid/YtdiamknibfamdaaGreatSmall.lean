/- The small functions of the layer 'plan' and of Go's library: what their calls come to. -/
import Derived.Test.YtdiamknibfamdaaGreatSpec
import Derived.Test.YtdiamknibfamdaaGreatAll
import Derived.Test.YtdiamknibfamdaaGreatRise
import Derived.Test.YtdiamknibfamdaaGreatClone
namespace Go.Proofs.YtdiamknibfamdaaGreat
open Go.RowKit Go.Shelf

theorem from49 (n a b : Int) (w : World) : Calls Tryz.prog 49 #[.int .u64 n, .int .u64 a, .int .u64 b] w fun e w' => e = .returned (.bool (fromB n a b)) ∧ w = w' := by
  by_cases h : a ≤ n <;> by_cases h2 : n ≤ b
  all_goals
    go_enter Tryz.func49, Tryz.ntmps49
    go_wp2
    go_ret
    exact ⟨by simp [fromB, *], rfl⟩
theorem from50 (n a b : Int) (w : World) : Calls Tryz.prog 50 #[.int .i64 n, .int .i64 a, .int .i64 b] w fun e w' => e = .returned (.bool (fromB n a b)) ∧ w = w' := by
  by_cases h : a ≤ n <;> by_cases h2 : n ≤ b
  all_goals
    go_enter Tryz.func50, Tryz.ntmps50
    go_wp2
    go_ret
    exact ⟨by simp [fromB, *], rfl⟩
theorem from111 (n a b : Int) (w : World) : Calls Tryz.prog 111 #[.int .i64 n, .int .i64 a, .int .i64 b] w fun e w' => e = .returned (.bool (fromB n a b)) ∧ w = w' := by
  by_cases h : a ≤ n <;> by_cases h2 : n ≤ b
  all_goals
    go_enter Tryz.func111, Tryz.ntmps111
    go_wp2
    go_ret
    exact ⟨by simp [fromB, *], rfl⟩

theorem isNaN185 (x : Int) (w : World) : Calls Tryz.prog 185 #[.int .i64 x] w fun e w' => e = .returned (.bool false) ∧ w = w' := by
  have h : (x != x) = false := by simp
  go_enter Tryz.func185, Tryz.ntmps185
  go_wp2
  go_ret
  exact ⟨rfl, rfl⟩
theorem isNaN171 (x : Int) (w : World) : Calls Tryz.prog 171 #[.int .u64 x] w fun e w' => e = .returned (.bool false) ∧ w = w' := by
  have h : (x != x) = false := by simp
  go_enter Tryz.func171, Tryz.ntmps171
  go_wp2
  go_ret
  exact ⟨rfl, rfl⟩
theorem compare128 (x y : Int) (w : World) : Calls Tryz.prog 128 #[.int .i64 x, .int .i64 y] w fun e w' => e = .returned (.int .i64 (cmpB x y)) ∧ w = w' := by
  have e0 : cmpB x y = if x < y then -1 else if y < x then 1 else 0 := rfl
  generalize cmpB x y = r at e0 ⊢
  have E0 : Hid _ := e0
  clear e0
  by_cases h : x < y
  · go_enter Tryz.func128, Tryz.ntmps128
    go_wp2_with (go_at_call 185; refine (isNaN185 _ _).mono ?_; rintro e w' ⟨rfl, rfl⟩)
    go_ret
    exact ⟨ret_i64 (by rw [E0.out, if_pos h]), rfl⟩
  · by_cases h2 : y < x
    · go_enter Tryz.func128, Tryz.ntmps128
      go_wp2_with (go_at_call 185; refine (isNaN185 _ _).mono ?_; rintro e w' ⟨rfl, rfl⟩)
      go_ret
      exact ⟨ret_i64 (by rw [E0.out, if_neg (by omega), if_pos h2]), rfl⟩
    · go_enter Tryz.func128, Tryz.ntmps128
      go_wp2_with (go_at_call 185; refine (isNaN185 _ _).mono ?_; rintro e w' ⟨rfl, rfl⟩)
      go_ret
      exact ⟨ret_i64 (by rw [E0.out, if_neg (by omega), if_neg (by omega)]), rfl⟩
theorem compare122 (x y : Int) (w : World) : Calls Tryz.prog 122 #[.int .u64 x, .int .u64 y] w fun e w' => e = .returned (.int .i64 (cmpB x y)) ∧ w = w' := by
  have e0 : cmpB x y = if x < y then -1 else if y < x then 1 else 0 := rfl
  generalize cmpB x y = r at e0 ⊢
  have E0 : Hid _ := e0
  clear e0
  by_cases h : x < y
  · go_enter Tryz.func122, Tryz.ntmps122
    go_wp2_with (go_at_call 171; refine (isNaN171 _ _).mono ?_; rintro e w' ⟨rfl, rfl⟩)
    go_ret
    exact ⟨ret_i64 (by rw [E0.out, if_pos h]), rfl⟩
  · by_cases h2 : y < x
    · go_enter Tryz.func122, Tryz.ntmps122
      go_wp2_with (go_at_call 171; refine (isNaN171 _ _).mono ?_; rintro e w' ⟨rfl, rfl⟩)
      go_ret
      exact ⟨ret_i64 (by rw [E0.out, if_neg (by omega), if_pos h2]), rfl⟩
    · go_enter Tryz.func122, Tryz.ntmps122
      go_wp2_with (go_at_call 171; refine (isNaN171 _ _).mono ?_; rintro e w' ⟨rfl, rfl⟩)
      go_ret
      exact ⟨ret_i64 (by rw [E0.out, if_neg (by omega), if_neg (by omega)]), rfl⟩

theorem place197 (x : Place) (w : World) : Calls Tryz.prog 197 #[x.v] w fun e w' => e = .returned (.bool (placeB x)) ∧ Below w.heap.size w w' := by
  go_enter Tryz.func197, Tryz.ntmps197
  go_wp2_with (first | (go_at_call 50; refine (from50 _ _ _ _).mono ?_; rintro e w' ⟨rfl, rfl⟩) | (go_at_call 49; refine (from49 _ _ _ _).mono ?_; rintro e w' ⟨rfl, rfl⟩))
  all_goals (go_ret; exact ⟨by simp [placeB, *], b1 _ _⟩)

theorem counts1 (x : Int) (w : World) : Calls Tryz.prog 97 #[.int .u64 x] w fun e w' => e = .returned (.bool (decide (4611686018427387903 < x))) ∧ Below w.heap.size w w' := by
  go_enter Tryz.func97, Tryz.ntmps97
  go_wp2
  go_ret
  exact ⟨rfl, Below.refl _ _⟩
theorem enters97 : ∀ args w, (callFunc 97 args).run Tryz.prog w = .ok (.enter 97 args) w := enters_of Tryz.func97 (by kernel_rfl) rfl
theorem countsB_eq (l : List Int) : (!l.any fun x => decide (4611686018427387903 < x)) = countsB l := by
  unfold countsB
  rw [← not_any_not]
  congr 2
  funext x
  by_cases h : x ≤ 4611686018427387903 <;> simp [h] <;> omega
theorem counts48 (s : Sl Int) (w : World) (hs : SlOk eU64 w s) : Calls Tryz.prog 48 #[.slice s.a s.xs.length s.c] w fun e w' => e = .returned (.bool (countsB s.xs)) ∧ Below w.heap.size w w' := by
  have hcon := containsFunc96 s (fun x => decide (4611686018427387903 < x)) 97 #[] enters97 w hs (fun W x _ _ => counts1 x W)
  rw [← countsB_eq]
  generalize s.xs.any (fun x => decide (4611686018427387903 < x)) = r at hcon ⊢
  go_enter Tryz.func48, Tryz.ntmps48
  go_wp2_with (go_at_call 96; refine hcon.mono ?_; rintro e w' ⟨rfl, hb'⟩)
  go_ret
  exact ⟨rfl, hb'⟩
theorem heap_top (w : World) (o : Obj) (k : Nat) (h : k = w.heap.size) : (w.alloc o).heap[k]? = some o := by rw [heap_get, if_pos h]
theorem lit_ok (xs : List Int) (w : World) (B : Nat) (t : TypeId) (fr : Nat × Nat) (hB : w.heap[B]? = some (.cells (xs.map (Value.int .u64)).toArray t fr)) (h : ∀ x ∈ xs, U64 x) (hn : xs.length ≤ 9223372036854775807) :
    SlOk eU64 w ⟨some ⟨B, 0, none⟩, xs.length, xs⟩ :=
  ⟨Nat.le_refl _, hn, (fun h => by cases h), fun _ => ⟨B, 0, rfl, (Array.getElem?_eq_some_iff.1 hB).1, fun j x hj i v hv => by
    obtain rfl : i = 0 := by
      have := (List.getElem?_eq_some_iff.1 hv).1
      simp [eU64] at this
      exact this
    simp [eU64] at hv
    subst hv
    have hj' : xs[j]? = some x := hj
    rw [World.cell?, hB]
    simp [eU64, hj']⟩, h⟩

def has78B (n channel : Int) : Bool := fromB channel 1 n
set_option maxHeartbeats 400000 in
theorem owned101 (c : ChannelR) (w : World) : Calls Tryz.prog 101 #[c.v] w fun e w' => e = .returned (.bool (ownedB c.d)) ∧ Below w.heap.size w w' := by
  obtain ⟨ep, ow, ic, re, fi, tr, ⟨la, lc, ls⟩, ⟨sa, sc, ss⟩, ⟨ca, cc, cs⟩⟩ := c
  have e0 : ownedB (ChannelR.d ⟨ep, ow, ic, re, fi, tr, ⟨la, lc, ls⟩, ⟨sa, sc, ss⟩, ⟨ca, cc, cs⟩⟩) = if ep = 0 then decide (ow = 0) && decide (ic = 0) && decide (ls.length = 0) else fromB ow 1 15 && fromB ic 1 4611686018427387903 := rfl
  generalize ownedB _ = r at e0 ⊢
  have E0 : Hid _ := e0
  clear e0
  have hn : ((ls.length : Int) == 0) = decide (ls.length = 0) := by rw [Bool.eq_iff_iff]; simp
  go_enter Tryz.func101, Tryz.ntmps101
  go_wp2_with (first | (go_at_call 50; refine (from50 _ _ _ _).mono ?_; rintro e w' ⟨rfl, rfl⟩) | (go_at_call 49; refine (from49 _ _ _ _).mono ?_; rintro e w' ⟨rfl, rfl⟩))
  all_goals (go_ret; exact ⟨ret_bool (by rw [E0.out]; simp_all), b1 _ _⟩)

set_option maxHeartbeats 1000000 in
theorem past62 (x : Past) (w : World) (hx : ePast.ok w x) : Calls Tryz.prog 62 #[x.v] w fun e w' => e = .returned (.bool (pastB x)) ∧ Below w.heap.size w w' := by
  have hu : ∀ y ∈ [x.out.epoch, x.out.at_, x.out.ledger], U64 y := by
    intro y hy
    simp at hy
    obtain ⟨_, _, _, _, h1, h2, h3, _⟩ := hx
    rcases hy with rfl | rfl | rfl <;> assumption
  have e0 : pastB x = (fromB x.who 1 15 && fromB x.inc 1 4611686018427387903 && fromB x.n 1 4611686018427387903 && fromB x.out.code 0 9 && fromB x.out.owner 0 15 && countsB [x.out.epoch, x.out.at_, x.out.ledger]) := rfl
  generalize pastB x = r at e0 ⊢
  have E0 : Hid _ := e0
  clear e0 hx
  have hc : ∀ w B, w.heap[B]? = some (.cells #[.int .u64 x.out.epoch, .int .u64 x.out.at_, .int .u64 x.out.ledger] 22 (0, 0)) → Calls Tryz.prog 48 #[.slice (some ⟨B, 0, none⟩) 3 3] w fun e w' => e = .returned (.bool (countsB [x.out.epoch, x.out.at_, x.out.ledger])) ∧ Below w.heap.size w w' :=
    fun w B hB => counts48 ⟨some ⟨B, 0, none⟩, 3, [x.out.epoch, x.out.at_, x.out.ledger]⟩ w (lit_ok _ w B 22 (0, 0) (by simpa using hB) hu (by simp))
  clear hu
  go_enter Tryz.func62, Tryz.ntmps62
  go_wp2_with (first | (go_at_call 50; refine (from50 _ _ _ _).mono ?_; rintro e w' ⟨rfl, rfl⟩) | (go_at_call 49; refine (from49 _ _ _ _).mono ?_; rintro e w' ⟨rfl, rfl⟩) | (go_at_call 111; refine (from111 _ _ _ _).mono ?_; rintro e w' ⟨rfl, rfl⟩) | (go_at_call 48; refine (hc _ _ (heap_top _ _ _ (by simp))).mono ?_; rintro e w' ⟨rfl, hb'⟩))
  all_goals (go_ret; refine ⟨ret_bool (by rw [E0.out]; simp_all), ?_⟩; first | exact bthen (bthen (b1 _ _) (b1 _ _)) (bthen (b1 _ _) hb') | exact bthen (b1 _ _) (b1 _ _))

end Go.Proofs.YtdiamknibfamdaaGreat
