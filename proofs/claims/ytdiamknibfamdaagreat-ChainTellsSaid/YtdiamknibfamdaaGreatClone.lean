/- slices.Clone at its types. -/
import Derived.Test.YtdiamknibfamdaaGreatBase
import Derived.Lib.SliceRun
import Derived.Laws.MakeOwn
namespace Go.Proofs.YtdiamknibfamdaaGreat
open Go.RowKit Go.Shelf


/-- What came back: new memory that reads as these elements. -/
def Made {α : Type} (E : El α) (t : TypeId) (xs : List α) (w : World) (e : Ending) (w' : World) : Prop :=
  ∃ a c, e = .returned (.slice a xs.length c) ∧ SlOk E w' ⟨a, c, xs⟩ ∧ w'.ownsRow w.heap.size t E.k (.slice a xs.length c) xs.length (xs.flatMap E.enc) ∧ Below w.heap.size w w'
theorem made_nil {α : Type} (E : El α) (t : TypeId) (w : World) : Made E t [] w (.returned (.slice none 0 0)) w :=
  ⟨none, 0, rfl, SlOk.nil_ E w, ⟨by simp, .inl ⟨rfl, rfl⟩⟩, Below.refl _ _⟩
theorem made_mk {α : Type} {E : El α} {t : TypeId} {xs : List α} {w w' : World} {e : Ending} {v : Value} (he : e = .returned v) (h : w'.ownsRow w.heap.size t E.k v xs.length (xs.flatMap E.enc)) (hk : ∀ x ∈ xs, E.ok w' x) (hb : Below w.heap.size w w') : Made E t xs w e w' := by
  obtain ⟨a, c, rfl, hs⟩ := own_ok h hk
  exact ⟨a, c, he, hs, h, hb⟩

theorem info59 : (Tryz.prog.info? 59).map (fun i => (i.zero, i.size, i.bytes)) = some (some (.agg #[.int .i64 0, .int .u64 0]), 2, 16) := by kernel_rfl

set_option maxHeartbeats 1000000 in
theorem clone85 (s : Sl Place) (w : World) (hs : SlOk ePlace w s) (hb : s.xs.length * 16 ≤ 140737488355328) :
    Calls Tryz.prog 85 #[.slice s.a s.xs.length s.c] w (Made ePlace 59 s.xs w) := by
  obtain ⟨i0, hi, hz0, hz1, hz2⟩ := info_parts info59
  have hle := hs.le
  have hcap := hs.cap
  have hq : ∀ (w : World) (a : Option Addr) (n c n' c' : Nat), (binOp .eql 111 (.slice a n c) (.slice none n' c')).run Tryz.prog w = .ok (.bool a.isNone) w := fun w a n c n' c' => Lib.run_eql_slice_nil w _ _ a n c n' c' Tryz.underlying111
  obtain ⟨a, c, xs⟩ := s
  dsimp only at hb hle hcap ⊢
  match a with
  | none =>
    obtain ⟨hx, _⟩ := hs.nil rfl
    dsimp only at hx
    subst hx
    clear hs
    go_enter Tryz.func85, Tryz.ntmps85
    go_wp2
    go_ret
    exact made_nil _ _ _
  | some ad =>
    have A : Aside (∀ j u, (xs.flatMap ePlace.enc)[j]? = some u → w.cell? (ad.add j) = some u) := hs.cells rfl
    have K : Aside (∀ x ∈ xs, ePlace.ok w x) := hs.ok
    clear hs
    go_enter Tryz.func85, Tryz.ntmps85
    go_wp2_with (at_builtin; refine wpList_append_own _ rfl _ _ 111 rfl w.heap.size 59 i0 (.agg #[.int .i64 0, .int .u64 0]) 2 16 Tryz.underlying111 hi hz0 hz1 hz2 rfl (by decide) _ _ _ rfl (World.ownsRow_made w #[] 0 (Nat.le_refl _) (Nat.zero_le _) (by simp)) ad xs.length c (xs.flatMap ePlace.enc) rfl ?qc1 ?qc2 ?qc3 ?qc4 ?qc5 ?qc6 ?_)
    case qc1 => exact flat_len ePlace xs
    case qc2 =>
      intro j u hj
      exact Lib.cell?_alloc_some _ (A.out j u hj)
    case qc3 => exact flat_one ePlace xs
    case qc4 => rw [Nat.zero_add]; exact Nat.le_trans hle hcap
    case qc5 => rw [Nat.zero_add]; exact hb
    case qc6 => simp
    intro v' w1 hown hgrow hnil
    clear hnil hq
    go_wp2
    go_ret
    have hbel : Below w.heap.size w w1 := (b1 w _).grown hgrow (by simp) (by intro k hk; simp [Value.ownBlock] at hk; omega)
    exact made_mk rfl (show w1.ownsRow w.heap.size 59 2 v' xs.length (xs.flatMap ePlace.enc) from by simpa using hown) (fun x hx => ePlace.mono (K.out x hx) hbel) hbel

theorem info134 : (Tryz.prog.info? 134).map (fun i => (i.zero, i.size, i.bytes)) = some (some (.agg #[.int .i64 0, .int .u64 0, .int .u64 0]), 3, 24) := by kernel_rfl

set_option maxHeartbeats 1000000 in
theorem clone86 (s : Sl Mark) (w : World) (hs : SlOk eMark w s) (hb : s.xs.length * 24 ≤ 140737488355328) :
    Calls Tryz.prog 86 #[.slice s.a s.xs.length s.c] w (Made eMark 134 s.xs w) := by
  obtain ⟨i0, hi, hz0, hz1, hz2⟩ := info_parts info134
  have hle := hs.le
  have hcap := hs.cap
  have hq : ∀ (w : World) (a : Option Addr) (n c n' c' : Nat), (binOp .eql 39 (.slice a n c) (.slice none n' c')).run Tryz.prog w = .ok (.bool a.isNone) w := fun w a n c n' c' => Lib.run_eql_slice_nil w _ _ a n c n' c' Tryz.underlying39
  obtain ⟨a, c, xs⟩ := s
  dsimp only at hb hle hcap ⊢
  match a with
  | none =>
    obtain ⟨hx, _⟩ := hs.nil rfl
    dsimp only at hx
    subst hx
    clear hs
    go_enter Tryz.func86, Tryz.ntmps86
    go_wp2
    go_ret
    exact made_nil _ _ _
  | some ad =>
    have A : Aside (∀ j u, (xs.flatMap eMark.enc)[j]? = some u → w.cell? (ad.add j) = some u) := hs.cells rfl
    have K : Aside (∀ x ∈ xs, eMark.ok w x) := hs.ok
    clear hs
    go_enter Tryz.func86, Tryz.ntmps86
    go_wp2_with (at_builtin; refine wpList_append_own _ rfl _ _ 39 rfl w.heap.size 134 i0 (.agg #[.int .i64 0, .int .u64 0, .int .u64 0]) 3 24 Tryz.underlying39 hi hz0 hz1 hz2 rfl (by decide) _ _ _ rfl (World.ownsRow_made w #[] 0 (Nat.le_refl _) (Nat.zero_le _) (by simp)) ad xs.length c (xs.flatMap eMark.enc) rfl ?qc1 ?qc2 ?qc3 ?qc4 ?qc5 ?qc6 ?_)
    case qc1 => exact flat_len eMark xs
    case qc2 =>
      intro j u hj
      exact Lib.cell?_alloc_some _ (A.out j u hj)
    case qc3 => exact flat_one eMark xs
    case qc4 => rw [Nat.zero_add]; exact Nat.le_trans hle hcap
    case qc5 => rw [Nat.zero_add]; exact hb
    case qc6 => simp
    intro v' w1 hown hgrow hnil
    clear hnil hq
    go_wp2
    go_ret
    have hbel : Below w.heap.size w w1 := (b1 w _).grown hgrow (by simp) (by intro k hk; simp [Value.ownBlock] at hk; omega)
    exact made_mk rfl (show w1.ownsRow w.heap.size 134 3 v' xs.length (xs.flatMap eMark.enc) from by simpa using hown) (fun x hx => eMark.mono (K.out x hx) hbel) hbel

theorem info22 : (Tryz.prog.info? 22).map (fun i => (i.zero, i.size, i.bytes)) = some (some (.int .u64 0), 1, 8) := by kernel_rfl

set_option maxHeartbeats 1000000 in
theorem clone117 (s : Sl Int) (w : World) (hs : SlOk eU64 w s) (hb : s.xs.length * 8 ≤ 140737488355328) :
    Calls Tryz.prog 117 #[.slice s.a s.xs.length s.c] w (Made eU64 22 s.xs w) := by
  obtain ⟨i0, hi, hz0, hz1, hz2⟩ := info_parts info22
  have hle := hs.le
  have hcap := hs.cap
  have hq : ∀ (w : World) (a : Option Addr) (n c n' c' : Nat), (binOp .eql 38 (.slice a n c) (.slice none n' c')).run Tryz.prog w = .ok (.bool a.isNone) w := fun w a n c n' c' => Lib.run_eql_slice_nil w _ _ a n c n' c' Tryz.underlying38
  obtain ⟨a, c, xs⟩ := s
  dsimp only at hb hle hcap ⊢
  match a with
  | none =>
    obtain ⟨hx, _⟩ := hs.nil rfl
    dsimp only at hx
    subst hx
    clear hs
    go_enter Tryz.func117, Tryz.ntmps117
    go_wp2
    go_ret
    exact made_nil _ _ _
  | some ad =>
    have A : Aside (∀ j u, (xs.flatMap eU64.enc)[j]? = some u → w.cell? (ad.add j) = some u) := hs.cells rfl
    have K : Aside (∀ x ∈ xs, eU64.ok w x) := hs.ok
    clear hs
    go_enter Tryz.func117, Tryz.ntmps117
    go_wp2_with (at_builtin; refine wpList_append_own _ rfl _ _ 38 rfl w.heap.size 22 i0 (.int .u64 0) 1 8 Tryz.underlying38 hi hz0 hz1 hz2 rfl (by decide) _ _ _ rfl (World.ownsRow_made w #[] 0 (Nat.le_refl _) (Nat.zero_le _) (by simp)) ad xs.length c (xs.flatMap eU64.enc) rfl ?qc1 ?qc2 ?qc3 ?qc4 ?qc5 ?qc6 ?_)
    case qc1 => exact flat_len eU64 xs
    case qc2 =>
      intro j u hj
      exact Lib.cell?_alloc_some _ (A.out j u hj)
    case qc3 => exact flat_one eU64 xs
    case qc4 => rw [Nat.zero_add]; exact Nat.le_trans hle hcap
    case qc5 => rw [Nat.zero_add]; exact hb
    case qc6 => simp
    intro v' w1 hown hgrow hnil
    clear hnil hq
    go_wp2
    go_ret
    have hbel : Below w.heap.size w w1 := (b1 w _).grown hgrow (by simp) (by intro k hk; simp [Value.ownBlock] at hk; omega)
    exact made_mk rfl (show w1.ownsRow w.heap.size 22 1 v' xs.length (xs.flatMap eU64.enc) from by simpa using hown) (fun x hx => eU64.mono (K.out x hx) hbel) hbel

theorem info151 : (Tryz.prog.info? 151).map (fun i => (i.zero, i.size, i.bytes)) = some (some (.agg #[.int .i64 0, .int .u64 0]), 2, 16) := by kernel_rfl

set_option maxHeartbeats 1000000 in
theorem clone118 (s : Sl Cursor) (w : World) (hs : SlOk eCursor w s) (hb : s.xs.length * 16 ≤ 140737488355328) :
    Calls Tryz.prog 118 #[.slice s.a s.xs.length s.c] w (Made eCursor 151 s.xs w) := by
  obtain ⟨i0, hi, hz0, hz1, hz2⟩ := info_parts info151
  have hle := hs.le
  have hcap := hs.cap
  have hq : ∀ (w : World) (a : Option Addr) (n c n' c' : Nat), (binOp .eql 40 (.slice a n c) (.slice none n' c')).run Tryz.prog w = .ok (.bool a.isNone) w := fun w a n c n' c' => Lib.run_eql_slice_nil w _ _ a n c n' c' Tryz.underlying40
  obtain ⟨a, c, xs⟩ := s
  dsimp only at hb hle hcap ⊢
  match a with
  | none =>
    obtain ⟨hx, _⟩ := hs.nil rfl
    dsimp only at hx
    subst hx
    clear hs
    go_enter Tryz.func118, Tryz.ntmps118
    go_wp2
    go_ret
    exact made_nil _ _ _
  | some ad =>
    have A : Aside (∀ j u, (xs.flatMap eCursor.enc)[j]? = some u → w.cell? (ad.add j) = some u) := hs.cells rfl
    have K : Aside (∀ x ∈ xs, eCursor.ok w x) := hs.ok
    clear hs
    go_enter Tryz.func118, Tryz.ntmps118
    go_wp2_with (at_builtin; refine wpList_append_own _ rfl _ _ 40 rfl w.heap.size 151 i0 (.agg #[.int .i64 0, .int .u64 0]) 2 16 Tryz.underlying40 hi hz0 hz1 hz2 rfl (by decide) _ _ _ rfl (World.ownsRow_made w #[] 0 (Nat.le_refl _) (Nat.zero_le _) (by simp)) ad xs.length c (xs.flatMap eCursor.enc) rfl ?qc1 ?qc2 ?qc3 ?qc4 ?qc5 ?qc6 ?_)
    case qc1 => exact flat_len eCursor xs
    case qc2 =>
      intro j u hj
      exact Lib.cell?_alloc_some _ (A.out j u hj)
    case qc3 => exact flat_one eCursor xs
    case qc4 => rw [Nat.zero_add]; exact Nat.le_trans hle hcap
    case qc5 => rw [Nat.zero_add]; exact hb
    case qc6 => simp
    intro v' w1 hown hgrow hnil
    clear hnil hq
    go_wp2
    go_ret
    have hbel : Below w.heap.size w w1 := (b1 w _).grown hgrow (by simp) (by intro k hk; simp [Value.ownBlock] at hk; omega)
    exact made_mk rfl (show w1.ownsRow w.heap.size 151 2 v' xs.length (xs.flatMap eCursor.enc) from by simpa using hown) (fun x hx => eCursor.mono (K.out x hx) hbel) hbel

theorem info82 : (Tryz.prog.info? 82).map (fun i => (i.zero, i.size, i.bytes)) = some (some (.agg #[.int .i64 0, .int .u64 0, .int .u64 0, .int .i64 0, .int .u64 0, .int .u64 0, .int .u64 0, .int .i64 0]), 8, 64) := by kernel_rfl

set_option maxHeartbeats 1000000 in
theorem clone120 (s : Sl Past) (w : World) (hs : SlOk ePast w s) (hb : s.xs.length * 64 ≤ 140737488355328) :
    Calls Tryz.prog 120 #[.slice s.a s.xs.length s.c] w (Made ePast 82 s.xs w) := by
  obtain ⟨i0, hi, hz0, hz1, hz2⟩ := info_parts info82
  have hle := hs.le
  have hcap := hs.cap
  have hq : ∀ (w : World) (a : Option Addr) (n c n' c' : Nat), (binOp .eql 25 (.slice a n c) (.slice none n' c')).run Tryz.prog w = .ok (.bool a.isNone) w := fun w a n c n' c' => Lib.run_eql_slice_nil w _ _ a n c n' c' Tryz.underlying25
  obtain ⟨a, c, xs⟩ := s
  dsimp only at hb hle hcap ⊢
  match a with
  | none =>
    obtain ⟨hx, _⟩ := hs.nil rfl
    dsimp only at hx
    subst hx
    clear hs
    go_enter Tryz.func120, Tryz.ntmps120
    go_wp2
    go_ret
    exact made_nil _ _ _
  | some ad =>
    have A : Aside (∀ j u, (xs.flatMap ePast.enc)[j]? = some u → w.cell? (ad.add j) = some u) := hs.cells rfl
    have K : Aside (∀ x ∈ xs, ePast.ok w x) := hs.ok
    clear hs
    go_enter Tryz.func120, Tryz.ntmps120
    go_wp2_with (at_builtin; refine wpList_append_own _ rfl _ _ 25 rfl w.heap.size 82 i0 (.agg #[.int .i64 0, .int .u64 0, .int .u64 0, .int .i64 0, .int .u64 0, .int .u64 0, .int .u64 0, .int .i64 0]) 8 64 Tryz.underlying25 hi hz0 hz1 hz2 rfl (by decide) _ _ _ rfl (World.ownsRow_made w #[] 0 (Nat.le_refl _) (Nat.zero_le _) (by simp)) ad xs.length c (xs.flatMap ePast.enc) rfl ?qc1 ?qc2 ?qc3 ?qc4 ?qc5 ?qc6 ?_)
    case qc1 => exact flat_len ePast xs
    case qc2 =>
      intro j u hj
      exact Lib.cell?_alloc_some _ (A.out j u hj)
    case qc3 => exact flat_one ePast xs
    case qc4 => rw [Nat.zero_add]; exact Nat.le_trans hle hcap
    case qc5 => rw [Nat.zero_add]; exact hb
    case qc6 => simp
    intro v' w1 hown hgrow hnil
    clear hnil hq
    go_wp2
    go_ret
    have hbel : Below w.heap.size w w1 := (b1 w _).grown hgrow (by simp) (by intro k hk; simp [Value.ownBlock] at hk; omega)
    exact made_mk rfl (show w1.ownsRow w.heap.size 82 8 v' xs.length (xs.flatMap ePast.enc) from by simpa using hown) (fun x hx => ePast.mono (K.out x hx) hbel) hbel

end Go.Proofs.YtdiamknibfamdaaGreat
