/- slices.Equal at its types. -/
import Derived.Test.YtdiamknibfamdaaGreatBase
import Derived.Test.YtdiamknibfamdaaGreatEq
namespace Go.Proofs.YtdiamknibfamdaaGreat
open Go.RowKit Go.Shelf


theorem ext_below {α : Type} {xs ys : List α} (hl : xs.length = ys.length) (h : ∀ j, j < xs.length → xs[j]? = ys[j]?) : xs = ys := by
  apply List.ext_getElem? 
  intro j
  by_cases hj : j < xs.length
  · exact h j hj
  · rw [List.getElem?_eq_none (by omega), List.getElem?_eq_none (by omega)]

set_option maxHeartbeats 1000000 in
theorem equal56 (s r : Sl Int) (w : World) (hs : SlOk eU64 w s) (hr : SlOk eU64 w r) :
    Calls Tryz.prog 56 #[.slice s.a s.xs.length s.c, .slice r.a r.xs.length r.c] w fun e w' => e = .returned (.bool (decide (s.xs = r.xs))) ∧ Below w.heap.size w w' := by
  obtain ⟨a, c, xs⟩ := s
  obtain ⟨a', c', ys⟩ := r
  have hle := hs.le
  have hcap := hs.cap
  have hle' := hr.le
  have hcap' := hr.cap
  dsimp only at hle hcap hle' hcap' ⊢
  by_cases hl : xs.length = ys.length
  case neg =>
    have hb : ((xs.length : Int) != (ys.length : Int)) = true := by rw [bne_iff_ne]; omega
    clear hs hr
    go_enter Tryz.func56, Tryz.ntmps56
    go_wp2
    go_ret
    exact ⟨ret_bool (by rw [decide_eq_false]; intro h; exact hl (by rw [h])), Below.refl _ _⟩
  have hb : ((xs.length : Int) != (ys.length : Int)) = false := by rw [hl]; simp
  have HL : Hid _ := hl
  clear hl
  go_enter Tryz.func56, Tryz.ntmps56
  go_wp2
  go_loopg [5, 13] xs.length (fun gg _ s13 wr => ∃ kk : Nat, kk ≤ xs.length ∧ xs.length - kk ≤ gg ∧ s13 = .int .i64 kk ∧ Aside (Below w.heap.size w wr) ∧ Aside (∀ j, j < kk → xs[j]? = ys[j]?))
  case atStart => exact ⟨0, Nat.zero_le _, by omega, rfl, Below.refl _ w, fun j hj => absurd hj (Nat.not_lt_zero _)⟩
  case round =>
    obtain ⟨kk, hkk, hg, rfl, BW, A⟩ := hrel
    by_cases hlt : kk < xs.length
    · obtain ⟨b, off, y1, ha, hy1, hb1, hat1, hok1⟩ := (hs.mono BW.out).get (j := kk) hlt
      obtain ⟨b', off', y2, ha', hy2, hb2, hat2, hok2⟩ := (hr.mono BW.out).get (j := kk) (by rw [HL.out] at hlt; exact hlt)
      have m1 := fun W (hW : Below wr.heap.size wr W) => hat1.mono hb1 hW
      have m2 := fun W (hW : Below wr.heap.size wr W) => hat2.mono hb2 hW
      have hltz : (kk : Int) < (xs.length : Int) := by omega
      have hltz2 : (kk : Int) < (ys.length : Int) := by have := HL.out; omega
      have hlt2 : kk < ys.length := by omega
      dsimp only at ha ha' hy1 hy2
      simp only [show eU64.k = 1 from rfl, Nat.mul_one] at m1 m2
      have d0 := fun W hW => (at_u64 (m1 W hW))
      have e0 := fun W hW => (at_u64 (m2 W hW))
      have Y1 : Hid _ := hy1
      have Y2 : Hid _ := hy2
      clear hy1 hy2 hat1 hat2 hok1 hok2 hs hr m1 m2
      subst ha
      subst ha'
      go_wp2_with fail
      refine region_cls (fun w' => Below wr.heap.size wr w') (by kernel_rfl) (by kernel_rfl) (Below.refl _ _).drew ?_
      repeat (go_big_quiet_step ((first | exact fun _ => rfl | (intro hW; simp only [Result.andThen, d0 _ hW]; first | exact ⟨trivial, rfl⟩ | exact ⟨rfl, rfl⟩ | rfl) | (intro hW; simp only [Result.andThen, e0 _ hW]; first | exact ⟨trivial, rfl⟩ | exact ⟨rfl, rfl⟩ | rfl))))
      refine wpQuiet_nil ?_
      intro W hW
      have HW : Aside (Below wr.heap.size wr W) := hW
      clear hW
      by_cases hv : y1 = y2
      · have hv' : (y1 != y2) = false := by simp [hv]
        have HV : Hid _ := hv
        clear hv
        go_wp2
        go_roundg (xs.length - (kk + 1))
        case measure => omega
        case rel => exact ⟨kk + 1, by omega, by omega, by go_num, bthen BW.out HW.out, fun j hj => by
          by_cases e : j = kk
          · subst e; rw [Y1.out, Y2.out, HV.out]
          · exact A.out j (by omega)⟩
      · have hv' : (y1 != y2) = true := by simp [hv]
        have HV : Hid _ := hv
        clear hv
        go_wp2
        go_ret
        exact ⟨ret_bool (by rw [decide_eq_false]; rintro rfl; have := Y1.out.symm.trans Y2.out; cases this; exact HV.out rfl), bthen BW.out HW.out⟩
    · have hltz : ¬ (kk : Int) < (xs.length : Int) := by omega
      go_wp2
      go_ret
      exact ⟨ret_bool (by rw [decide_eq_true]; exact ext_below HL.out (fun j hj => A.out j (by omega))), BW.out⟩

set_option maxHeartbeats 1000000 in
theorem equal130 (s r : Sl Mark) (w : World) (hs : SlOk eMark w s) (hr : SlOk eMark w r) :
    Calls Tryz.prog 130 #[.slice s.a s.xs.length s.c, .slice r.a r.xs.length r.c] w fun e w' => e = .returned (.bool (decide (s.xs = r.xs))) ∧ Below w.heap.size w w' := by
  obtain ⟨a, c, xs⟩ := s
  obtain ⟨a', c', ys⟩ := r
  have hle := hs.le
  have hcap := hs.cap
  have hle' := hr.le
  have hcap' := hr.cap
  dsimp only at hle hcap hle' hcap' ⊢
  by_cases hl : xs.length = ys.length
  case neg =>
    have hb : ((xs.length : Int) != (ys.length : Int)) = true := by rw [bne_iff_ne]; omega
    clear hs hr
    go_enter Tryz.func130, Tryz.ntmps130
    go_wp2
    go_ret
    exact ⟨ret_bool (by rw [decide_eq_false]; intro h; exact hl (by rw [h])), Below.refl _ _⟩
  have hb : ((xs.length : Int) != (ys.length : Int)) = false := by rw [hl]; simp
  have HL : Hid _ := hl
  clear hl
  go_enter Tryz.func130, Tryz.ntmps130
  go_wp2
  go_loopg [5, 13] xs.length (fun gg _ s13 wr => ∃ kk : Nat, kk ≤ xs.length ∧ xs.length - kk ≤ gg ∧ s13 = .int .i64 kk ∧ Aside (Below w.heap.size w wr) ∧ Aside (∀ j, j < kk → xs[j]? = ys[j]?))
  case atStart => exact ⟨0, Nat.zero_le _, by omega, rfl, Below.refl _ w, fun j hj => absurd hj (Nat.not_lt_zero _)⟩
  case round =>
    obtain ⟨kk, hkk, hg, rfl, BW, A⟩ := hrel
    by_cases hlt : kk < xs.length
    · obtain ⟨b, off, y1, ha, hy1, hb1, hat1, hok1⟩ := (hs.mono BW.out).get (j := kk) hlt
      obtain ⟨b', off', y2, ha', hy2, hb2, hat2, hok2⟩ := (hr.mono BW.out).get (j := kk) (by rw [HL.out] at hlt; exact hlt)
      have m1 := fun W (hW : Below wr.heap.size wr W) => hat1.mono hb1 hW
      have m2 := fun W (hW : Below wr.heap.size wr W) => hat2.mono hb2 hW
      have hltz : (kk : Int) < (xs.length : Int) := by omega
      have hltz2 : (kk : Int) < (ys.length : Int) := by have := HL.out; omega
      have hlt2 : kk < ys.length := by omega
      dsimp only at ha ha' hy1 hy2
      simp only [show eMark.k = 3 from rfl] at m1 m2
      have d0 := fun W hW => (at_mark (m1 W hW)).1; have d1 := fun W hW => (at_mark (m1 W hW)).2.1; have d2 := fun W hW => (at_mark (m1 W hW)).2.2
      have e0 := fun W hW => (at_mark (m2 W hW)).1; have e1 := fun W hW => (at_mark (m2 W hW)).2.1; have e2 := fun W hW => (at_mark (m2 W hW)).2.2
      have Y1 : Hid _ := hy1
      have Y2 : Hid _ := hy2
      clear hy1 hy2 hat1 hat2 hok1 hok2 hs hr m1 m2
      subst ha
      subst ha'
      have q1 := fun w => neq_mark y1 y2 w
      have q2 := fun op a b w => guard_mark op a b y1 y2 w
      generalize hq : decide (y1 = y2) = q at q1
      have HQ : Hid _ := hq
      clear hq
      go_wp2_with fail
      refine region_cls (fun w' => Below wr.heap.size wr w') (by kernel_rfl) (by kernel_rfl) (Below.refl _ _).drew ?_
      repeat (go_big_quiet_step ((first | exact fun _ => rfl | (intro hW; simp only [Result.andThen, d0 _ hW, d1 _ hW, d2 _ hW]; first | exact ⟨trivial, rfl⟩ | exact ⟨rfl, rfl⟩ | rfl) | (intro hW; simp only [Result.andThen, e0 _ hW, e1 _ hW, e2 _ hW]; first | exact ⟨trivial, rfl⟩ | exact ⟨rfl, rfl⟩ | rfl))))
      refine wpQuiet_nil ?_
      intro W hW
      have HW : Aside (Below wr.heap.size wr W) := hW
      clear hW
      cases q
      case true =>
        have HV : Hid (y1 = y2) := (of_decide_eq_true (p := y1 = y2) HQ.out)
        go_wp2
        go_roundg (xs.length - (kk + 1))
        case measure => omega
        case rel => exact ⟨kk + 1, by omega, by omega, by go_num, bthen BW.out HW.out, fun j hj => by
          by_cases e : j = kk
          · subst e; rw [Y1.out, Y2.out, HV.out]
          · exact A.out j (by omega)⟩
      case false =>
        have HV : Hid (¬ y1 = y2) := (of_decide_eq_false (p := y1 = y2) HQ.out)
        go_wp2
        go_ret
        exact ⟨ret_bool (by rw [decide_eq_false]; rintro rfl; have := Y1.out.symm.trans Y2.out; cases this; exact HV.out rfl), bthen BW.out HW.out⟩
    · have hltz : ¬ (kk : Int) < (xs.length : Int) := by omega
      go_wp2
      go_ret
      exact ⟨ret_bool (by rw [decide_eq_true]; exact ext_below HL.out (fun j hj => A.out j (by omega))), BW.out⟩

set_option maxHeartbeats 1000000 in
theorem equal133 (s r : Sl Place) (w : World) (hs : SlOk ePlace w s) (hr : SlOk ePlace w r) :
    Calls Tryz.prog 133 #[.slice s.a s.xs.length s.c, .slice r.a r.xs.length r.c] w fun e w' => e = .returned (.bool (decide (s.xs = r.xs))) ∧ Below w.heap.size w w' := by
  obtain ⟨a, c, xs⟩ := s
  obtain ⟨a', c', ys⟩ := r
  have hle := hs.le
  have hcap := hs.cap
  have hle' := hr.le
  have hcap' := hr.cap
  dsimp only at hle hcap hle' hcap' ⊢
  by_cases hl : xs.length = ys.length
  case neg =>
    have hb : ((xs.length : Int) != (ys.length : Int)) = true := by rw [bne_iff_ne]; omega
    clear hs hr
    go_enter Tryz.func133, Tryz.ntmps133
    go_wp2
    go_ret
    exact ⟨ret_bool (by rw [decide_eq_false]; intro h; exact hl (by rw [h])), Below.refl _ _⟩
  have hb : ((xs.length : Int) != (ys.length : Int)) = false := by rw [hl]; simp
  have HL : Hid _ := hl
  clear hl
  go_enter Tryz.func133, Tryz.ntmps133
  go_wp2
  go_loopg [5, 13] xs.length (fun gg _ s13 wr => ∃ kk : Nat, kk ≤ xs.length ∧ xs.length - kk ≤ gg ∧ s13 = .int .i64 kk ∧ Aside (Below w.heap.size w wr) ∧ Aside (∀ j, j < kk → xs[j]? = ys[j]?))
  case atStart => exact ⟨0, Nat.zero_le _, by omega, rfl, Below.refl _ w, fun j hj => absurd hj (Nat.not_lt_zero _)⟩
  case round =>
    obtain ⟨kk, hkk, hg, rfl, BW, A⟩ := hrel
    by_cases hlt : kk < xs.length
    · obtain ⟨b, off, y1, ha, hy1, hb1, hat1, hok1⟩ := (hs.mono BW.out).get (j := kk) hlt
      obtain ⟨b', off', y2, ha', hy2, hb2, hat2, hok2⟩ := (hr.mono BW.out).get (j := kk) (by rw [HL.out] at hlt; exact hlt)
      have m1 := fun W (hW : Below wr.heap.size wr W) => hat1.mono hb1 hW
      have m2 := fun W (hW : Below wr.heap.size wr W) => hat2.mono hb2 hW
      have hltz : (kk : Int) < (xs.length : Int) := by omega
      have hltz2 : (kk : Int) < (ys.length : Int) := by have := HL.out; omega
      have hlt2 : kk < ys.length := by omega
      dsimp only at ha ha' hy1 hy2
      simp only [show ePlace.k = 2 from rfl] at m1 m2
      have d0 := fun W hW => (at_place (m1 W hW)).1; have d1 := fun W hW => (at_place (m1 W hW)).2
      have e0 := fun W hW => (at_place (m2 W hW)).1; have e1 := fun W hW => (at_place (m2 W hW)).2
      have Y1 : Hid _ := hy1
      have Y2 : Hid _ := hy2
      clear hy1 hy2 hat1 hat2 hok1 hok2 hs hr m1 m2
      subst ha
      subst ha'
      have q1 := fun w => neq_place y1 y2 w
      have q2 := fun op a b w => guard_place op a b y1 y2 w
      generalize hq : decide (y1 = y2) = q at q1
      have HQ : Hid _ := hq
      clear hq
      go_wp2_with fail
      refine region_cls (fun w' => Below wr.heap.size wr w') (by kernel_rfl) (by kernel_rfl) (Below.refl _ _).drew ?_
      repeat (go_big_quiet_step ((first | exact fun _ => rfl | (intro hW; simp only [Result.andThen, d0 _ hW, d1 _ hW]; first | exact ⟨trivial, rfl⟩ | exact ⟨rfl, rfl⟩ | rfl) | (intro hW; simp only [Result.andThen, e0 _ hW, e1 _ hW]; first | exact ⟨trivial, rfl⟩ | exact ⟨rfl, rfl⟩ | rfl))))
      refine wpQuiet_nil ?_
      intro W hW
      have HW : Aside (Below wr.heap.size wr W) := hW
      clear hW
      cases q
      case true =>
        have HV : Hid (y1 = y2) := (of_decide_eq_true (p := y1 = y2) HQ.out)
        go_wp2
        go_roundg (xs.length - (kk + 1))
        case measure => omega
        case rel => exact ⟨kk + 1, by omega, by omega, by go_num, bthen BW.out HW.out, fun j hj => by
          by_cases e : j = kk
          · subst e; rw [Y1.out, Y2.out, HV.out]
          · exact A.out j (by omega)⟩
      case false =>
        have HV : Hid (¬ y1 = y2) := (of_decide_eq_false (p := y1 = y2) HQ.out)
        go_wp2
        go_ret
        exact ⟨ret_bool (by rw [decide_eq_false]; rintro rfl; have := Y1.out.symm.trans Y2.out; cases this; exact HV.out rfl), bthen BW.out HW.out⟩
    · have hltz : ¬ (kk : Int) < (xs.length : Int) := by omega
      go_wp2
      go_ret
      exact ⟨ret_bool (by rw [decide_eq_true]; exact ext_below HL.out (fun j hj => A.out j (by omega))), BW.out⟩

end Go.Proofs.YtdiamknibfamdaaGreat
