/- plan.rise at its types and keys. -/
import Derived.Test.YtdiamknibfamdaaGreatFind
namespace Go.Proofs.YtdiamknibfamdaaGreat
open Go.RowKit Go.Shelf


theorem rise_step (l : List Int) (k : Nat) (a b : Int) (hk : 1 ≤ k) (h1 : l[k - 1]? = some a) (h2 : l[k]? = some b) : riseB (l.drop (k - 1)) = (decide (a < b) && riseB (l.drop k)) := by
  have e1 : l.drop (k - 1) = a :: l.drop k := by
    have := List.getElem?_eq_some_iff.1 h1
    obtain ⟨hlt, he⟩ := this
    rw [List.drop_eq_getElem_cons hlt, he, show k - 1 + 1 = k by omega]
  have e2 : l.drop k = b :: l.drop (k + 1) := by
    obtain ⟨hlt, he⟩ := List.getElem?_eq_some_iff.1 h2
    rw [List.drop_eq_getElem_cons hlt, he]
  rw [e1, e2]
  rfl
theorem rise_end (l : List Int) (k : Nat) (h : l.length ≤ k) : riseB (l.drop (k - 1)) = true := by
  have : (l.drop (k - 1)).length ≤ 1 := by simp; omega
  match hd : l.drop (k - 1), this with
  | [], _ => rfl
  | [_], _ => rfl
theorem enters55 : ∀ args w, (callFunc 55 args).run Tryz.prog w = .ok (.enter 55 args) w := enters_of Tryz.func55 (by kernel_rfl) rfl

theorem key55 (x : LedgerR) (w : World) : Calls Tryz.prog 55 #[x.v] w fun e w' => e = .returned (.int .u64 x.id) ∧ Below w.heap.size w w' := by
  go_enter Tryz.func55, Tryz.ntmps55
  go_wp2
  go_ret
  exact ⟨rfl, b1 _ _⟩
theorem enters60 : ∀ args w, (callFunc 60 args).run Tryz.prog w = .ok (.enter 60 args) w := enters_of Tryz.func60 (by kernel_rfl) rfl

theorem key60 (x : Past) (w : World) : Calls Tryz.prog 60 #[x.v] w fun e w' => e = .returned (.int .i64 x.who) ∧ Below w.heap.size w w' := by
  go_enter Tryz.func60, Tryz.ntmps60
  go_wp2
  go_ret
  exact ⟨rfl, b1 _ _⟩
theorem enters103 : ∀ args w, (callFunc 103 args).run Tryz.prog w = .ok (.enter 103 args) w := enters_of Tryz.func103 (by kernel_rfl) rfl

theorem key103 (x : Int) (w : World) : Calls Tryz.prog 103 #[.int .u64 x] w fun e w' => e = .returned (.int .u64 x) ∧ Below w.heap.size w w' := by
  go_enter Tryz.func103, Tryz.ntmps103
  go_wp2
  go_ret
  exact ⟨rfl, Below.refl _ _⟩
theorem enters106 : ∀ args w, (callFunc 106 args).run Tryz.prog w = .ok (.enter 106 args) w := enters_of Tryz.func106 (by kernel_rfl) rfl

theorem key106 (x : Cursor) (w : World) : Calls Tryz.prog 106 #[x.v] w fun e w' => e = .returned (.int .i64 x.sub) ∧ Below w.heap.size w w' := by
  go_enter Tryz.func106, Tryz.ntmps106
  go_wp2
  go_ret
  exact ⟨rfl, b1 _ _⟩
theorem enters155 : ∀ args w, (callFunc 155 args).run Tryz.prog w = .ok (.enter 155 args) w := enters_of Tryz.func155 (by kernel_rfl) rfl

theorem key155 (x : FragR) (w : World) : Calls Tryz.prog 155 #[x.v] w fun e w' => e = .returned (.int .u64 x.first) ∧ Below w.heap.size w w' := by
  go_enter Tryz.func155, Tryz.ntmps155
  go_wp2
  go_ret
  exact ⟨rfl, b1 _ _⟩
theorem enters159 : ∀ args w, (callFunc 159 args).run Tryz.prog w = .ok (.enter 159 args) w := enters_of Tryz.func159 (by kernel_rfl) rfl

theorem key159 (x : Mark) (w : World) : Calls Tryz.prog 159 #[x.v] w fun e w' => e = .returned (.int .i64 x.producer) ∧ Below w.heap.size w w' := by
  go_enter Tryz.func159, Tryz.ntmps159
  go_wp2
  go_ret
  exact ⟨rfl, b1 _ _⟩
theorem enters161 : ∀ args w, (callFunc 161 args).run Tryz.prog w = .ok (.enter 161 args) w := enters_of Tryz.func161 (by kernel_rfl) rfl

theorem key161 (x : Mark) (w : World) : Calls Tryz.prog 161 #[x.v] w fun e w' => e = .returned (.int .u64 x.offset) ∧ Below w.heap.size w w' := by
  go_enter Tryz.func161, Tryz.ntmps161
  go_wp2
  go_ret
  exact ⟨rfl, b1 _ _⟩
theorem enters199 : ∀ args w, (callFunc 199 args).run Tryz.prog w = .ok (.enter 199 args) w := enters_of Tryz.func199 (by kernel_rfl) rfl

theorem key199 (x : Place) (w : World) : Calls Tryz.prog 199 #[x.v] w fun e w' => e = .returned (.int .i64 x.node) ∧ Below w.heap.size w w' := by
  go_enter Tryz.func199, Tryz.ntmps199
  go_wp2
  go_ret
  exact ⟨rfl, b1 _ _⟩

set_option maxHeartbeats 1000000 in
theorem rise54 (s : Sl LedgerR) (key : LedgerR → Int) (g : Nat) (lb : Array Value) (eg : ∀ args w, (callFunc g args).run Tryz.prog w = .ok (.enter g args) w) (w : World) (hs : SlOk eLedger w s)
    (hp : ∀ W x, x ∈ s.xs → Below w.heap.size w W → Calls Tryz.prog g (#[x.v] ++ lb) W fun e w' => e = .returned (.int .u64 (key x)) ∧ Below W.heap.size W w') :
    Calls Tryz.prog 54 #[.slice s.a s.xs.length s.c, .func (.func g) #[] lb] w fun e w' => e = .returned (.bool (riseB (s.xs.map key))) ∧ Below w.heap.size w w' := by
  obtain ⟨a, c, xs⟩ := s
  dsimp only at hp ⊢
  have hle := hs.le
  have hcap := hs.cap
  dsimp only at hle hcap
  go_enter Tryz.func54, Tryz.ntmps54
  go_wp2
  go_loopg [5] xs.length (fun gg s5 wr => ∃ kk : Nat, 1 ≤ kk ∧ xs.length - kk ≤ gg ∧ kk ≤ xs.length + 1 ∧ s5 = .int .i64 kk ∧ Aside (Below w.heap.size w wr) ∧ Aside (riseB (xs.map key) = riseB ((xs.map key).drop (kk - 1))))
  case atStart => exact ⟨1, by omega, by omega, by omega, rfl, Below.refl _ w, (by simp [Aside])⟩
  case round =>
    obtain ⟨kk, h1, hg, hkk, rfl, BW, A⟩ := hrel
    by_cases hlt : kk < xs.length
    · obtain ⟨b, off, y1, ha, hy1, hb, hat1, hok1⟩ := (hs.mono BW.out).get (j := kk - 1) (by show _ < xs.length; omega)
      obtain ⟨b', off', y2, ha', hy2, hb', hat2, hok2⟩ := (hs.mono BW.out).get (j := kk) hlt
      have hst := rise_step (xs.map key) kk (key y1) (key y2) h1 (by simp [hy1]) (by simp [hy2])
      have c1 := fun W (hW : Below wr.heap.size wr W) => hp W y1 (List.mem_of_getElem? hy1) (bthen BW.out hW)
      have c2 := fun W (hW : Below wr.heap.size wr W) => hp W y2 (List.mem_of_getElem? hy2) (bthen BW.out hW)
      have m1 := fun W (hW : Below wr.heap.size wr W) => hat1.mono hb hW
      have m2 := fun W (hW : Below wr.heap.size wr W) => hat2.mono hb' hW
      dsimp only at ha ha'
      simp only [show eLedger.k = 6 from rfl] at m1 m2
      have d0 := fun W hW => (at_ledger (m1 W hW)).1; have d1 := fun W hW => (at_ledger (m1 W hW)).2.1; have d2 := fun W hW => (at_ledger (m1 W hW)).2.2.1; have d3 := fun W hW => (at_ledger (m1 W hW)).2.2.2.1; have d4 := fun W hW => (at_ledger (m1 W hW)).2.2.2.2.1; have d5 := fun W hW => (at_ledger (m1 W hW)).2.2.2.2.2
      have e0 := fun W hW => (at_ledger (m2 W hW)).1; have e1 := fun W hW => (at_ledger (m2 W hW)).2.1; have e2 := fun W hW => (at_ledger (m2 W hW)).2.2.1; have e3 := fun W hW => (at_ledger (m2 W hW)).2.2.2.1; have e4 := fun W hW => (at_ledger (m2 W hW)).2.2.2.2.1; have e5 := fun W hW => (at_ledger (m2 W hW)).2.2.2.2.2
      have HS : Hid _ := hst
      clear hst hy1 hy2 hp hat1 hat2 hok1 hok2 hs m1 m2
      subst ha
      cases ha'
      have hltz : (kk : Int) < (xs.length : Int) := by omega
      have hk0 : (0 : Int) ≤ (kk : Int) - 1 := by omega
      have hk2 : (kk : Int) - 1 < (xs.length : Int) := by omega
      have hk3 : ((kk : Int) - 1).toNat = kk - 1 := by omega
      have gk1 : Hid (key y1 = key y1) := rfl
      generalize key y1 = v1 at HS c1
      generalize key y2 = v2 at HS c2
      clear gk1
      go_wp2_with fail
      refine region_cls (fun w' => Below wr.heap.size wr w') (by kernel_rfl) (by kernel_rfl) (Below.refl _ _).drew ?_
      repeat (go_big_quiet_step ((first | exact fun _ => rfl | (intro hW; exact (c1 _ hW).mono fun _ _ ⟨he, hx⟩ => ⟨he, bthen hW hx⟩) | (intro hW; exact (c2 _ hW).mono fun _ _ ⟨he, hx⟩ => ⟨he, bthen hW hx⟩) | (intro hW; simp only [Result.andThen, d0 _ hW, d1 _ hW, d2 _ hW, d3 _ hW, d4 _ hW, d5 _ hW]; first | exact ⟨trivial, rfl⟩ | exact ⟨rfl, rfl⟩ | rfl) | (intro hW; simp only [Result.andThen, e0 _ hW, e1 _ hW, e2 _ hW, e3 _ hW, e4 _ hW, e5 _ hW]; first | exact ⟨trivial, rfl⟩ | exact ⟨rfl, rfl⟩ | rfl))))
      refine wpQuiet_nil ?_
      intro W hW
      have HW : Aside (Below wr.heap.size wr W) := hW
      clear hW
      by_cases hv : v1 < v2
      · have hv' : ¬ v2 ≤ v1 := by omega
        go_wp2
        go_roundg (xs.length - (kk + 1))
        case measure => omega
        case rel => exact ⟨kk + 1, by omega, by omega, by omega, by go_num, bthen BW.out HW.out, by show riseB _ = _; rw [A.out, HS.out, Nat.add_sub_cancel]; simp [hv]⟩
      · have hv' : v2 ≤ v1 := by omega
        go_wp2
        go_ret
        exact ⟨ret_bool (by rw [A.out, HS.out, decide_eq_false (show ¬ v1 < v2 by omega)]; rfl), bthen BW.out HW.out⟩
    · have hltz : ¬ (kk : Int) < (xs.length : Int) := by omega
      clear hp
      go_wp2
      go_ret
      exact ⟨ret_bool (by rw [A.out, rise_end _ kk (by simp; omega)]), BW.out⟩

set_option maxHeartbeats 1000000 in
theorem rise59 (s : Sl Past) (key : Past → Int) (g : Nat) (lb : Array Value) (eg : ∀ args w, (callFunc g args).run Tryz.prog w = .ok (.enter g args) w) (w : World) (hs : SlOk ePast w s)
    (hp : ∀ W x, x ∈ s.xs → Below w.heap.size w W → Calls Tryz.prog g (#[x.v] ++ lb) W fun e w' => e = .returned (.int .i64 (key x)) ∧ Below W.heap.size W w') :
    Calls Tryz.prog 59 #[.slice s.a s.xs.length s.c, .func (.func g) #[] lb] w fun e w' => e = .returned (.bool (riseB (s.xs.map key))) ∧ Below w.heap.size w w' := by
  obtain ⟨a, c, xs⟩ := s
  dsimp only at hp ⊢
  have hle := hs.le
  have hcap := hs.cap
  dsimp only at hle hcap
  go_enter Tryz.func59, Tryz.ntmps59
  go_wp2
  go_loopg [5] xs.length (fun gg s5 wr => ∃ kk : Nat, 1 ≤ kk ∧ xs.length - kk ≤ gg ∧ kk ≤ xs.length + 1 ∧ s5 = .int .i64 kk ∧ Aside (Below w.heap.size w wr) ∧ Aside (riseB (xs.map key) = riseB ((xs.map key).drop (kk - 1))))
  case atStart => exact ⟨1, by omega, by omega, by omega, rfl, Below.refl _ w, (by simp [Aside])⟩
  case round =>
    obtain ⟨kk, h1, hg, hkk, rfl, BW, A⟩ := hrel
    by_cases hlt : kk < xs.length
    · obtain ⟨b, off, y1, ha, hy1, hb, hat1, hok1⟩ := (hs.mono BW.out).get (j := kk - 1) (by show _ < xs.length; omega)
      obtain ⟨b', off', y2, ha', hy2, hb', hat2, hok2⟩ := (hs.mono BW.out).get (j := kk) hlt
      have hst := rise_step (xs.map key) kk (key y1) (key y2) h1 (by simp [hy1]) (by simp [hy2])
      have c1 := fun W (hW : Below wr.heap.size wr W) => hp W y1 (List.mem_of_getElem? hy1) (bthen BW.out hW)
      have c2 := fun W (hW : Below wr.heap.size wr W) => hp W y2 (List.mem_of_getElem? hy2) (bthen BW.out hW)
      have m1 := fun W (hW : Below wr.heap.size wr W) => hat1.mono hb hW
      have m2 := fun W (hW : Below wr.heap.size wr W) => hat2.mono hb' hW
      dsimp only at ha ha'
      simp only [show ePast.k = 8 from rfl] at m1 m2
      have d0 := fun W hW => (at_past (m1 W hW)).1; have d1 := fun W hW => (at_past (m1 W hW)).2.1; have d2 := fun W hW => (at_past (m1 W hW)).2.2.1; have d3 := fun W hW => (at_past (m1 W hW)).2.2.2.1; have d4 := fun W hW => (at_past (m1 W hW)).2.2.2.2.1; have d5 := fun W hW => (at_past (m1 W hW)).2.2.2.2.2.1; have d6 := fun W hW => (at_past (m1 W hW)).2.2.2.2.2.2.1; have d7 := fun W hW => (at_past (m1 W hW)).2.2.2.2.2.2.2
      have e0 := fun W hW => (at_past (m2 W hW)).1; have e1 := fun W hW => (at_past (m2 W hW)).2.1; have e2 := fun W hW => (at_past (m2 W hW)).2.2.1; have e3 := fun W hW => (at_past (m2 W hW)).2.2.2.1; have e4 := fun W hW => (at_past (m2 W hW)).2.2.2.2.1; have e5 := fun W hW => (at_past (m2 W hW)).2.2.2.2.2.1; have e6 := fun W hW => (at_past (m2 W hW)).2.2.2.2.2.2.1; have e7 := fun W hW => (at_past (m2 W hW)).2.2.2.2.2.2.2
      have HS : Hid _ := hst
      clear hst hy1 hy2 hp hat1 hat2 hok1 hok2 hs m1 m2
      subst ha
      cases ha'
      have hltz : (kk : Int) < (xs.length : Int) := by omega
      have hk0 : (0 : Int) ≤ (kk : Int) - 1 := by omega
      have hk2 : (kk : Int) - 1 < (xs.length : Int) := by omega
      have hk3 : ((kk : Int) - 1).toNat = kk - 1 := by omega
      have gk1 : Hid (key y1 = key y1) := rfl
      generalize key y1 = v1 at HS c1
      generalize key y2 = v2 at HS c2
      clear gk1
      go_wp2_with fail
      refine region_cls (fun w' => Below wr.heap.size wr w') (by kernel_rfl) (by kernel_rfl) (Below.refl _ _).drew ?_
      repeat (go_big_quiet_step ((first | exact fun _ => rfl | (intro hW; exact (c1 _ hW).mono fun _ _ ⟨he, hx⟩ => ⟨he, bthen hW hx⟩) | (intro hW; exact (c2 _ hW).mono fun _ _ ⟨he, hx⟩ => ⟨he, bthen hW hx⟩) | (intro hW; simp only [Result.andThen, d0 _ hW, d1 _ hW, d2 _ hW, d3 _ hW, d4 _ hW, d5 _ hW, d6 _ hW, d7 _ hW]; first | exact ⟨trivial, rfl⟩ | exact ⟨rfl, rfl⟩ | rfl) | (intro hW; simp only [Result.andThen, e0 _ hW, e1 _ hW, e2 _ hW, e3 _ hW, e4 _ hW, e5 _ hW, e6 _ hW, e7 _ hW]; first | exact ⟨trivial, rfl⟩ | exact ⟨rfl, rfl⟩ | rfl))))
      refine wpQuiet_nil ?_
      intro W hW
      have HW : Aside (Below wr.heap.size wr W) := hW
      clear hW
      by_cases hv : v1 < v2
      · have hv' : ¬ v2 ≤ v1 := by omega
        go_wp2
        go_roundg (xs.length - (kk + 1))
        case measure => omega
        case rel => exact ⟨kk + 1, by omega, by omega, by omega, by go_num, bthen BW.out HW.out, by show riseB _ = _; rw [A.out, HS.out, Nat.add_sub_cancel]; simp [hv]⟩
      · have hv' : v2 ≤ v1 := by omega
        go_wp2
        go_ret
        exact ⟨ret_bool (by rw [A.out, HS.out, decide_eq_false (show ¬ v1 < v2 by omega)]; rfl), bthen BW.out HW.out⟩
    · have hltz : ¬ (kk : Int) < (xs.length : Int) := by omega
      clear hp
      go_wp2
      go_ret
      exact ⟨ret_bool (by rw [A.out, rise_end _ kk (by simp; omega)]), BW.out⟩

set_option maxHeartbeats 1000000 in
theorem rise102 (s : Sl Int) (key : Int → Int) (g : Nat) (lb : Array Value) (eg : ∀ args w, (callFunc g args).run Tryz.prog w = .ok (.enter g args) w) (w : World) (hs : SlOk eU64 w s)
    (hp : ∀ W x, x ∈ s.xs → Below w.heap.size w W → Calls Tryz.prog g (#[.int .u64 x] ++ lb) W fun e w' => e = .returned (.int .u64 (key x)) ∧ Below W.heap.size W w') :
    Calls Tryz.prog 102 #[.slice s.a s.xs.length s.c, .func (.func g) #[] lb] w fun e w' => e = .returned (.bool (riseB (s.xs.map key))) ∧ Below w.heap.size w w' := by
  obtain ⟨a, c, xs⟩ := s
  dsimp only at hp ⊢
  have hle := hs.le
  have hcap := hs.cap
  dsimp only at hle hcap
  go_enter Tryz.func102, Tryz.ntmps102
  go_wp2
  go_loopg [5] xs.length (fun gg s5 wr => ∃ kk : Nat, 1 ≤ kk ∧ xs.length - kk ≤ gg ∧ kk ≤ xs.length + 1 ∧ s5 = .int .i64 kk ∧ Aside (Below w.heap.size w wr) ∧ Aside (riseB (xs.map key) = riseB ((xs.map key).drop (kk - 1))))
  case atStart => exact ⟨1, by omega, by omega, by omega, rfl, Below.refl _ w, (by simp [Aside])⟩
  case round =>
    obtain ⟨kk, h1, hg, hkk, rfl, BW, A⟩ := hrel
    by_cases hlt : kk < xs.length
    · obtain ⟨b, off, y1, ha, hy1, hb, hat1, hok1⟩ := (hs.mono BW.out).get (j := kk - 1) (by show _ < xs.length; omega)
      obtain ⟨b', off', y2, ha', hy2, hb', hat2, hok2⟩ := (hs.mono BW.out).get (j := kk) hlt
      have hst := rise_step (xs.map key) kk (key y1) (key y2) h1 (by simp [hy1]) (by simp [hy2])
      have c1 := fun W (hW : Below wr.heap.size wr W) => hp W y1 (List.mem_of_getElem? hy1) (bthen BW.out hW)
      have c2 := fun W (hW : Below wr.heap.size wr W) => hp W y2 (List.mem_of_getElem? hy2) (bthen BW.out hW)
      have m1 := fun W (hW : Below wr.heap.size wr W) => hat1.mono hb hW
      have m2 := fun W (hW : Below wr.heap.size wr W) => hat2.mono hb' hW
      dsimp only at ha ha'
      simp only [show eU64.k = 1 from rfl, Nat.mul_one] at m1 m2
      have d0 := fun W hW => (at_u64 (m1 W hW))
      have e0 := fun W hW => (at_u64 (m2 W hW))
      have HS : Hid _ := hst
      clear hst hy1 hy2 hp hat1 hat2 hok1 hok2 hs m1 m2
      subst ha
      cases ha'
      have hltz : (kk : Int) < (xs.length : Int) := by omega
      have hk0 : (0 : Int) ≤ (kk : Int) - 1 := by omega
      have hk2 : (kk : Int) - 1 < (xs.length : Int) := by omega
      have hk3 : ((kk : Int) - 1).toNat = kk - 1 := by omega
      have gk1 : Hid (key y1 = key y1) := rfl
      generalize key y1 = v1 at HS c1
      generalize key y2 = v2 at HS c2
      clear gk1
      go_wp2_with fail
      refine region_cls (fun w' => Below wr.heap.size wr w') (by kernel_rfl) (by kernel_rfl) (Below.refl _ _).drew ?_
      repeat (go_big_quiet_step ((first | exact fun _ => rfl | (intro hW; exact (c1 _ hW).mono fun _ _ ⟨he, hx⟩ => ⟨he, bthen hW hx⟩) | (intro hW; exact (c2 _ hW).mono fun _ _ ⟨he, hx⟩ => ⟨he, bthen hW hx⟩) | (intro hW; simp only [Result.andThen, d0 _ hW]; first | exact ⟨trivial, rfl⟩ | exact ⟨rfl, rfl⟩ | rfl) | (intro hW; simp only [Result.andThen, e0 _ hW]; first | exact ⟨trivial, rfl⟩ | exact ⟨rfl, rfl⟩ | rfl))))
      refine wpQuiet_nil ?_
      intro W hW
      have HW : Aside (Below wr.heap.size wr W) := hW
      clear hW
      by_cases hv : v1 < v2
      · have hv' : ¬ v2 ≤ v1 := by omega
        go_wp2
        go_roundg (xs.length - (kk + 1))
        case measure => omega
        case rel => exact ⟨kk + 1, by omega, by omega, by omega, by go_num, bthen BW.out HW.out, by show riseB _ = _; rw [A.out, HS.out, Nat.add_sub_cancel]; simp [hv]⟩
      · have hv' : v2 ≤ v1 := by omega
        go_wp2
        go_ret
        exact ⟨ret_bool (by rw [A.out, HS.out, decide_eq_false (show ¬ v1 < v2 by omega)]; rfl), bthen BW.out HW.out⟩
    · have hltz : ¬ (kk : Int) < (xs.length : Int) := by omega
      clear hp
      go_wp2
      go_ret
      exact ⟨ret_bool (by rw [A.out, rise_end _ kk (by simp; omega)]), BW.out⟩

set_option maxHeartbeats 1000000 in
theorem rise105 (s : Sl Cursor) (key : Cursor → Int) (g : Nat) (lb : Array Value) (eg : ∀ args w, (callFunc g args).run Tryz.prog w = .ok (.enter g args) w) (w : World) (hs : SlOk eCursor w s)
    (hp : ∀ W x, x ∈ s.xs → Below w.heap.size w W → Calls Tryz.prog g (#[x.v] ++ lb) W fun e w' => e = .returned (.int .i64 (key x)) ∧ Below W.heap.size W w') :
    Calls Tryz.prog 105 #[.slice s.a s.xs.length s.c, .func (.func g) #[] lb] w fun e w' => e = .returned (.bool (riseB (s.xs.map key))) ∧ Below w.heap.size w w' := by
  obtain ⟨a, c, xs⟩ := s
  dsimp only at hp ⊢
  have hle := hs.le
  have hcap := hs.cap
  dsimp only at hle hcap
  go_enter Tryz.func105, Tryz.ntmps105
  go_wp2
  go_loopg [5] xs.length (fun gg s5 wr => ∃ kk : Nat, 1 ≤ kk ∧ xs.length - kk ≤ gg ∧ kk ≤ xs.length + 1 ∧ s5 = .int .i64 kk ∧ Aside (Below w.heap.size w wr) ∧ Aside (riseB (xs.map key) = riseB ((xs.map key).drop (kk - 1))))
  case atStart => exact ⟨1, by omega, by omega, by omega, rfl, Below.refl _ w, (by simp [Aside])⟩
  case round =>
    obtain ⟨kk, h1, hg, hkk, rfl, BW, A⟩ := hrel
    by_cases hlt : kk < xs.length
    · obtain ⟨b, off, y1, ha, hy1, hb, hat1, hok1⟩ := (hs.mono BW.out).get (j := kk - 1) (by show _ < xs.length; omega)
      obtain ⟨b', off', y2, ha', hy2, hb', hat2, hok2⟩ := (hs.mono BW.out).get (j := kk) hlt
      have hst := rise_step (xs.map key) kk (key y1) (key y2) h1 (by simp [hy1]) (by simp [hy2])
      have c1 := fun W (hW : Below wr.heap.size wr W) => hp W y1 (List.mem_of_getElem? hy1) (bthen BW.out hW)
      have c2 := fun W (hW : Below wr.heap.size wr W) => hp W y2 (List.mem_of_getElem? hy2) (bthen BW.out hW)
      have m1 := fun W (hW : Below wr.heap.size wr W) => hat1.mono hb hW
      have m2 := fun W (hW : Below wr.heap.size wr W) => hat2.mono hb' hW
      dsimp only at ha ha'
      simp only [show eCursor.k = 2 from rfl] at m1 m2
      have d0 := fun W hW => (at_cursor (m1 W hW)).1; have d1 := fun W hW => (at_cursor (m1 W hW)).2
      have e0 := fun W hW => (at_cursor (m2 W hW)).1; have e1 := fun W hW => (at_cursor (m2 W hW)).2
      have HS : Hid _ := hst
      clear hst hy1 hy2 hp hat1 hat2 hok1 hok2 hs m1 m2
      subst ha
      cases ha'
      have hltz : (kk : Int) < (xs.length : Int) := by omega
      have hk0 : (0 : Int) ≤ (kk : Int) - 1 := by omega
      have hk2 : (kk : Int) - 1 < (xs.length : Int) := by omega
      have hk3 : ((kk : Int) - 1).toNat = kk - 1 := by omega
      have gk1 : Hid (key y1 = key y1) := rfl
      generalize key y1 = v1 at HS c1
      generalize key y2 = v2 at HS c2
      clear gk1
      go_wp2_with fail
      refine region_cls (fun w' => Below wr.heap.size wr w') (by kernel_rfl) (by kernel_rfl) (Below.refl _ _).drew ?_
      repeat (go_big_quiet_step ((first | exact fun _ => rfl | (intro hW; exact (c1 _ hW).mono fun _ _ ⟨he, hx⟩ => ⟨he, bthen hW hx⟩) | (intro hW; exact (c2 _ hW).mono fun _ _ ⟨he, hx⟩ => ⟨he, bthen hW hx⟩) | (intro hW; simp only [Result.andThen, d0 _ hW, d1 _ hW]; first | exact ⟨trivial, rfl⟩ | exact ⟨rfl, rfl⟩ | rfl) | (intro hW; simp only [Result.andThen, e0 _ hW, e1 _ hW]; first | exact ⟨trivial, rfl⟩ | exact ⟨rfl, rfl⟩ | rfl))))
      refine wpQuiet_nil ?_
      intro W hW
      have HW : Aside (Below wr.heap.size wr W) := hW
      clear hW
      by_cases hv : v1 < v2
      · have hv' : ¬ v2 ≤ v1 := by omega
        go_wp2
        go_roundg (xs.length - (kk + 1))
        case measure => omega
        case rel => exact ⟨kk + 1, by omega, by omega, by omega, by go_num, bthen BW.out HW.out, by show riseB _ = _; rw [A.out, HS.out, Nat.add_sub_cancel]; simp [hv]⟩
      · have hv' : v2 ≤ v1 := by omega
        go_wp2
        go_ret
        exact ⟨ret_bool (by rw [A.out, HS.out, decide_eq_false (show ¬ v1 < v2 by omega)]; rfl), bthen BW.out HW.out⟩
    · have hltz : ¬ (kk : Int) < (xs.length : Int) := by omega
      clear hp
      go_wp2
      go_ret
      exact ⟨ret_bool (by rw [A.out, rise_end _ kk (by simp; omega)]), BW.out⟩

set_option maxHeartbeats 1000000 in
theorem rise154 (s : Sl FragR) (key : FragR → Int) (g : Nat) (lb : Array Value) (eg : ∀ args w, (callFunc g args).run Tryz.prog w = .ok (.enter g args) w) (w : World) (hs : SlOk eFrag w s)
    (hp : ∀ W x, x ∈ s.xs → Below w.heap.size w W → Calls Tryz.prog g (#[x.v] ++ lb) W fun e w' => e = .returned (.int .u64 (key x)) ∧ Below W.heap.size W w') :
    Calls Tryz.prog 154 #[.slice s.a s.xs.length s.c, .func (.func g) #[] lb] w fun e w' => e = .returned (.bool (riseB (s.xs.map key))) ∧ Below w.heap.size w w' := by
  obtain ⟨a, c, xs⟩ := s
  dsimp only at hp ⊢
  have hle := hs.le
  have hcap := hs.cap
  dsimp only at hle hcap
  go_enter Tryz.func154, Tryz.ntmps154
  go_wp2
  go_loopg [5] xs.length (fun gg s5 wr => ∃ kk : Nat, 1 ≤ kk ∧ xs.length - kk ≤ gg ∧ kk ≤ xs.length + 1 ∧ s5 = .int .i64 kk ∧ Aside (Below w.heap.size w wr) ∧ Aside (riseB (xs.map key) = riseB ((xs.map key).drop (kk - 1))))
  case atStart => exact ⟨1, by omega, by omega, by omega, rfl, Below.refl _ w, (by simp [Aside])⟩
  case round =>
    obtain ⟨kk, h1, hg, hkk, rfl, BW, A⟩ := hrel
    by_cases hlt : kk < xs.length
    · obtain ⟨b, off, y1, ha, hy1, hb, hat1, hok1⟩ := (hs.mono BW.out).get (j := kk - 1) (by show _ < xs.length; omega)
      obtain ⟨b', off', y2, ha', hy2, hb', hat2, hok2⟩ := (hs.mono BW.out).get (j := kk) hlt
      have hst := rise_step (xs.map key) kk (key y1) (key y2) h1 (by simp [hy1]) (by simp [hy2])
      have c1 := fun W (hW : Below wr.heap.size wr W) => hp W y1 (List.mem_of_getElem? hy1) (bthen BW.out hW)
      have c2 := fun W (hW : Below wr.heap.size wr W) => hp W y2 (List.mem_of_getElem? hy2) (bthen BW.out hW)
      have m1 := fun W (hW : Below wr.heap.size wr W) => hat1.mono hb hW
      have m2 := fun W (hW : Below wr.heap.size wr W) => hat2.mono hb' hW
      dsimp only at ha ha'
      simp only [show eFrag.k = 2 from rfl] at m1 m2
      have d0 := fun W hW => (at_frag (m1 W hW)).1; have d1 := fun W hW => (at_frag (m1 W hW)).2
      have e0 := fun W hW => (at_frag (m2 W hW)).1; have e1 := fun W hW => (at_frag (m2 W hW)).2
      have HS : Hid _ := hst
      clear hst hy1 hy2 hp hat1 hat2 hok1 hok2 hs m1 m2
      subst ha
      cases ha'
      have hltz : (kk : Int) < (xs.length : Int) := by omega
      have hk0 : (0 : Int) ≤ (kk : Int) - 1 := by omega
      have hk2 : (kk : Int) - 1 < (xs.length : Int) := by omega
      have hk3 : ((kk : Int) - 1).toNat = kk - 1 := by omega
      have gk1 : Hid (key y1 = key y1) := rfl
      generalize key y1 = v1 at HS c1
      generalize key y2 = v2 at HS c2
      clear gk1
      go_wp2_with fail
      refine region_cls (fun w' => Below wr.heap.size wr w') (by kernel_rfl) (by kernel_rfl) (Below.refl _ _).drew ?_
      repeat (go_big_quiet_step ((first | exact fun _ => rfl | (intro hW; exact (c1 _ hW).mono fun _ _ ⟨he, hx⟩ => ⟨he, bthen hW hx⟩) | (intro hW; exact (c2 _ hW).mono fun _ _ ⟨he, hx⟩ => ⟨he, bthen hW hx⟩) | (intro hW; simp only [Result.andThen, d0 _ hW, d1 _ hW]; first | exact ⟨trivial, rfl⟩ | exact ⟨rfl, rfl⟩ | rfl) | (intro hW; simp only [Result.andThen, e0 _ hW, e1 _ hW]; first | exact ⟨trivial, rfl⟩ | exact ⟨rfl, rfl⟩ | rfl))))
      refine wpQuiet_nil ?_
      intro W hW
      have HW : Aside (Below wr.heap.size wr W) := hW
      clear hW
      by_cases hv : v1 < v2
      · have hv' : ¬ v2 ≤ v1 := by omega
        go_wp2
        go_roundg (xs.length - (kk + 1))
        case measure => omega
        case rel => exact ⟨kk + 1, by omega, by omega, by omega, by go_num, bthen BW.out HW.out, by show riseB _ = _; rw [A.out, HS.out, Nat.add_sub_cancel]; simp [hv]⟩
      · have hv' : v2 ≤ v1 := by omega
        go_wp2
        go_ret
        exact ⟨ret_bool (by rw [A.out, HS.out, decide_eq_false (show ¬ v1 < v2 by omega)]; rfl), bthen BW.out HW.out⟩
    · have hltz : ¬ (kk : Int) < (xs.length : Int) := by omega
      clear hp
      go_wp2
      go_ret
      exact ⟨ret_bool (by rw [A.out, rise_end _ kk (by simp; omega)]), BW.out⟩

set_option maxHeartbeats 1000000 in
theorem rise158 (s : Sl Mark) (key : Mark → Int) (g : Nat) (lb : Array Value) (eg : ∀ args w, (callFunc g args).run Tryz.prog w = .ok (.enter g args) w) (w : World) (hs : SlOk eMark w s)
    (hp : ∀ W x, x ∈ s.xs → Below w.heap.size w W → Calls Tryz.prog g (#[x.v] ++ lb) W fun e w' => e = .returned (.int .i64 (key x)) ∧ Below W.heap.size W w') :
    Calls Tryz.prog 158 #[.slice s.a s.xs.length s.c, .func (.func g) #[] lb] w fun e w' => e = .returned (.bool (riseB (s.xs.map key))) ∧ Below w.heap.size w w' := by
  obtain ⟨a, c, xs⟩ := s
  dsimp only at hp ⊢
  have hle := hs.le
  have hcap := hs.cap
  dsimp only at hle hcap
  go_enter Tryz.func158, Tryz.ntmps158
  go_wp2
  go_loopg [5] xs.length (fun gg s5 wr => ∃ kk : Nat, 1 ≤ kk ∧ xs.length - kk ≤ gg ∧ kk ≤ xs.length + 1 ∧ s5 = .int .i64 kk ∧ Aside (Below w.heap.size w wr) ∧ Aside (riseB (xs.map key) = riseB ((xs.map key).drop (kk - 1))))
  case atStart => exact ⟨1, by omega, by omega, by omega, rfl, Below.refl _ w, (by simp [Aside])⟩
  case round =>
    obtain ⟨kk, h1, hg, hkk, rfl, BW, A⟩ := hrel
    by_cases hlt : kk < xs.length
    · obtain ⟨b, off, y1, ha, hy1, hb, hat1, hok1⟩ := (hs.mono BW.out).get (j := kk - 1) (by show _ < xs.length; omega)
      obtain ⟨b', off', y2, ha', hy2, hb', hat2, hok2⟩ := (hs.mono BW.out).get (j := kk) hlt
      have hst := rise_step (xs.map key) kk (key y1) (key y2) h1 (by simp [hy1]) (by simp [hy2])
      have c1 := fun W (hW : Below wr.heap.size wr W) => hp W y1 (List.mem_of_getElem? hy1) (bthen BW.out hW)
      have c2 := fun W (hW : Below wr.heap.size wr W) => hp W y2 (List.mem_of_getElem? hy2) (bthen BW.out hW)
      have m1 := fun W (hW : Below wr.heap.size wr W) => hat1.mono hb hW
      have m2 := fun W (hW : Below wr.heap.size wr W) => hat2.mono hb' hW
      dsimp only at ha ha'
      simp only [show eMark.k = 3 from rfl] at m1 m2
      have d0 := fun W hW => (at_mark (m1 W hW)).1; have d1 := fun W hW => (at_mark (m1 W hW)).2.1; have d2 := fun W hW => (at_mark (m1 W hW)).2.2
      have e0 := fun W hW => (at_mark (m2 W hW)).1; have e1 := fun W hW => (at_mark (m2 W hW)).2.1; have e2 := fun W hW => (at_mark (m2 W hW)).2.2
      have HS : Hid _ := hst
      clear hst hy1 hy2 hp hat1 hat2 hok1 hok2 hs m1 m2
      subst ha
      cases ha'
      have hltz : (kk : Int) < (xs.length : Int) := by omega
      have hk0 : (0 : Int) ≤ (kk : Int) - 1 := by omega
      have hk2 : (kk : Int) - 1 < (xs.length : Int) := by omega
      have hk3 : ((kk : Int) - 1).toNat = kk - 1 := by omega
      have gk1 : Hid (key y1 = key y1) := rfl
      generalize key y1 = v1 at HS c1
      generalize key y2 = v2 at HS c2
      clear gk1
      go_wp2_with fail
      refine region_cls (fun w' => Below wr.heap.size wr w') (by kernel_rfl) (by kernel_rfl) (Below.refl _ _).drew ?_
      repeat (go_big_quiet_step ((first | exact fun _ => rfl | (intro hW; exact (c1 _ hW).mono fun _ _ ⟨he, hx⟩ => ⟨he, bthen hW hx⟩) | (intro hW; exact (c2 _ hW).mono fun _ _ ⟨he, hx⟩ => ⟨he, bthen hW hx⟩) | (intro hW; simp only [Result.andThen, d0 _ hW, d1 _ hW, d2 _ hW]; first | exact ⟨trivial, rfl⟩ | exact ⟨rfl, rfl⟩ | rfl) | (intro hW; simp only [Result.andThen, e0 _ hW, e1 _ hW, e2 _ hW]; first | exact ⟨trivial, rfl⟩ | exact ⟨rfl, rfl⟩ | rfl))))
      refine wpQuiet_nil ?_
      intro W hW
      have HW : Aside (Below wr.heap.size wr W) := hW
      clear hW
      by_cases hv : v1 < v2
      · have hv' : ¬ v2 ≤ v1 := by omega
        go_wp2
        go_roundg (xs.length - (kk + 1))
        case measure => omega
        case rel => exact ⟨kk + 1, by omega, by omega, by omega, by go_num, bthen BW.out HW.out, by show riseB _ = _; rw [A.out, HS.out, Nat.add_sub_cancel]; simp [hv]⟩
      · have hv' : v2 ≤ v1 := by omega
        go_wp2
        go_ret
        exact ⟨ret_bool (by rw [A.out, HS.out, decide_eq_false (show ¬ v1 < v2 by omega)]; rfl), bthen BW.out HW.out⟩
    · have hltz : ¬ (kk : Int) < (xs.length : Int) := by omega
      clear hp
      go_wp2
      go_ret
      exact ⟨ret_bool (by rw [A.out, rise_end _ kk (by simp; omega)]), BW.out⟩

set_option maxHeartbeats 1000000 in
theorem rise160 (s : Sl Mark) (key : Mark → Int) (g : Nat) (lb : Array Value) (eg : ∀ args w, (callFunc g args).run Tryz.prog w = .ok (.enter g args) w) (w : World) (hs : SlOk eMark w s)
    (hp : ∀ W x, x ∈ s.xs → Below w.heap.size w W → Calls Tryz.prog g (#[x.v] ++ lb) W fun e w' => e = .returned (.int .u64 (key x)) ∧ Below W.heap.size W w') :
    Calls Tryz.prog 160 #[.slice s.a s.xs.length s.c, .func (.func g) #[] lb] w fun e w' => e = .returned (.bool (riseB (s.xs.map key))) ∧ Below w.heap.size w w' := by
  obtain ⟨a, c, xs⟩ := s
  dsimp only at hp ⊢
  have hle := hs.le
  have hcap := hs.cap
  dsimp only at hle hcap
  go_enter Tryz.func160, Tryz.ntmps160
  go_wp2
  go_loopg [5] xs.length (fun gg s5 wr => ∃ kk : Nat, 1 ≤ kk ∧ xs.length - kk ≤ gg ∧ kk ≤ xs.length + 1 ∧ s5 = .int .i64 kk ∧ Aside (Below w.heap.size w wr) ∧ Aside (riseB (xs.map key) = riseB ((xs.map key).drop (kk - 1))))
  case atStart => exact ⟨1, by omega, by omega, by omega, rfl, Below.refl _ w, (by simp [Aside])⟩
  case round =>
    obtain ⟨kk, h1, hg, hkk, rfl, BW, A⟩ := hrel
    by_cases hlt : kk < xs.length
    · obtain ⟨b, off, y1, ha, hy1, hb, hat1, hok1⟩ := (hs.mono BW.out).get (j := kk - 1) (by show _ < xs.length; omega)
      obtain ⟨b', off', y2, ha', hy2, hb', hat2, hok2⟩ := (hs.mono BW.out).get (j := kk) hlt
      have hst := rise_step (xs.map key) kk (key y1) (key y2) h1 (by simp [hy1]) (by simp [hy2])
      have c1 := fun W (hW : Below wr.heap.size wr W) => hp W y1 (List.mem_of_getElem? hy1) (bthen BW.out hW)
      have c2 := fun W (hW : Below wr.heap.size wr W) => hp W y2 (List.mem_of_getElem? hy2) (bthen BW.out hW)
      have m1 := fun W (hW : Below wr.heap.size wr W) => hat1.mono hb hW
      have m2 := fun W (hW : Below wr.heap.size wr W) => hat2.mono hb' hW
      dsimp only at ha ha'
      simp only [show eMark.k = 3 from rfl] at m1 m2
      have d0 := fun W hW => (at_mark (m1 W hW)).1; have d1 := fun W hW => (at_mark (m1 W hW)).2.1; have d2 := fun W hW => (at_mark (m1 W hW)).2.2
      have e0 := fun W hW => (at_mark (m2 W hW)).1; have e1 := fun W hW => (at_mark (m2 W hW)).2.1; have e2 := fun W hW => (at_mark (m2 W hW)).2.2
      have HS : Hid _ := hst
      clear hst hy1 hy2 hp hat1 hat2 hok1 hok2 hs m1 m2
      subst ha
      cases ha'
      have hltz : (kk : Int) < (xs.length : Int) := by omega
      have hk0 : (0 : Int) ≤ (kk : Int) - 1 := by omega
      have hk2 : (kk : Int) - 1 < (xs.length : Int) := by omega
      have hk3 : ((kk : Int) - 1).toNat = kk - 1 := by omega
      have gk1 : Hid (key y1 = key y1) := rfl
      generalize key y1 = v1 at HS c1
      generalize key y2 = v2 at HS c2
      clear gk1
      go_wp2_with fail
      refine region_cls (fun w' => Below wr.heap.size wr w') (by kernel_rfl) (by kernel_rfl) (Below.refl _ _).drew ?_
      repeat (go_big_quiet_step ((first | exact fun _ => rfl | (intro hW; exact (c1 _ hW).mono fun _ _ ⟨he, hx⟩ => ⟨he, bthen hW hx⟩) | (intro hW; exact (c2 _ hW).mono fun _ _ ⟨he, hx⟩ => ⟨he, bthen hW hx⟩) | (intro hW; simp only [Result.andThen, d0 _ hW, d1 _ hW, d2 _ hW]; first | exact ⟨trivial, rfl⟩ | exact ⟨rfl, rfl⟩ | rfl) | (intro hW; simp only [Result.andThen, e0 _ hW, e1 _ hW, e2 _ hW]; first | exact ⟨trivial, rfl⟩ | exact ⟨rfl, rfl⟩ | rfl))))
      refine wpQuiet_nil ?_
      intro W hW
      have HW : Aside (Below wr.heap.size wr W) := hW
      clear hW
      by_cases hv : v1 < v2
      · have hv' : ¬ v2 ≤ v1 := by omega
        go_wp2
        go_roundg (xs.length - (kk + 1))
        case measure => omega
        case rel => exact ⟨kk + 1, by omega, by omega, by omega, by go_num, bthen BW.out HW.out, by show riseB _ = _; rw [A.out, HS.out, Nat.add_sub_cancel]; simp [hv]⟩
      · have hv' : v2 ≤ v1 := by omega
        go_wp2
        go_ret
        exact ⟨ret_bool (by rw [A.out, HS.out, decide_eq_false (show ¬ v1 < v2 by omega)]; rfl), bthen BW.out HW.out⟩
    · have hltz : ¬ (kk : Int) < (xs.length : Int) := by omega
      clear hp
      go_wp2
      go_ret
      exact ⟨ret_bool (by rw [A.out, rise_end _ kk (by simp; omega)]), BW.out⟩

set_option maxHeartbeats 1000000 in
theorem rise198 (s : Sl Place) (key : Place → Int) (g : Nat) (lb : Array Value) (eg : ∀ args w, (callFunc g args).run Tryz.prog w = .ok (.enter g args) w) (w : World) (hs : SlOk ePlace w s)
    (hp : ∀ W x, x ∈ s.xs → Below w.heap.size w W → Calls Tryz.prog g (#[x.v] ++ lb) W fun e w' => e = .returned (.int .i64 (key x)) ∧ Below W.heap.size W w') :
    Calls Tryz.prog 198 #[.slice s.a s.xs.length s.c, .func (.func g) #[] lb] w fun e w' => e = .returned (.bool (riseB (s.xs.map key))) ∧ Below w.heap.size w w' := by
  obtain ⟨a, c, xs⟩ := s
  dsimp only at hp ⊢
  have hle := hs.le
  have hcap := hs.cap
  dsimp only at hle hcap
  go_enter Tryz.func198, Tryz.ntmps198
  go_wp2
  go_loopg [5] xs.length (fun gg s5 wr => ∃ kk : Nat, 1 ≤ kk ∧ xs.length - kk ≤ gg ∧ kk ≤ xs.length + 1 ∧ s5 = .int .i64 kk ∧ Aside (Below w.heap.size w wr) ∧ Aside (riseB (xs.map key) = riseB ((xs.map key).drop (kk - 1))))
  case atStart => exact ⟨1, by omega, by omega, by omega, rfl, Below.refl _ w, (by simp [Aside])⟩
  case round =>
    obtain ⟨kk, h1, hg, hkk, rfl, BW, A⟩ := hrel
    by_cases hlt : kk < xs.length
    · obtain ⟨b, off, y1, ha, hy1, hb, hat1, hok1⟩ := (hs.mono BW.out).get (j := kk - 1) (by show _ < xs.length; omega)
      obtain ⟨b', off', y2, ha', hy2, hb', hat2, hok2⟩ := (hs.mono BW.out).get (j := kk) hlt
      have hst := rise_step (xs.map key) kk (key y1) (key y2) h1 (by simp [hy1]) (by simp [hy2])
      have c1 := fun W (hW : Below wr.heap.size wr W) => hp W y1 (List.mem_of_getElem? hy1) (bthen BW.out hW)
      have c2 := fun W (hW : Below wr.heap.size wr W) => hp W y2 (List.mem_of_getElem? hy2) (bthen BW.out hW)
      have m1 := fun W (hW : Below wr.heap.size wr W) => hat1.mono hb hW
      have m2 := fun W (hW : Below wr.heap.size wr W) => hat2.mono hb' hW
      dsimp only at ha ha'
      simp only [show ePlace.k = 2 from rfl] at m1 m2
      have d0 := fun W hW => (at_place (m1 W hW)).1; have d1 := fun W hW => (at_place (m1 W hW)).2
      have e0 := fun W hW => (at_place (m2 W hW)).1; have e1 := fun W hW => (at_place (m2 W hW)).2
      have HS : Hid _ := hst
      clear hst hy1 hy2 hp hat1 hat2 hok1 hok2 hs m1 m2
      subst ha
      cases ha'
      have hltz : (kk : Int) < (xs.length : Int) := by omega
      have hk0 : (0 : Int) ≤ (kk : Int) - 1 := by omega
      have hk2 : (kk : Int) - 1 < (xs.length : Int) := by omega
      have hk3 : ((kk : Int) - 1).toNat = kk - 1 := by omega
      have gk1 : Hid (key y1 = key y1) := rfl
      generalize key y1 = v1 at HS c1
      generalize key y2 = v2 at HS c2
      clear gk1
      go_wp2_with fail
      refine region_cls (fun w' => Below wr.heap.size wr w') (by kernel_rfl) (by kernel_rfl) (Below.refl _ _).drew ?_
      repeat (go_big_quiet_step ((first | exact fun _ => rfl | (intro hW; exact (c1 _ hW).mono fun _ _ ⟨he, hx⟩ => ⟨he, bthen hW hx⟩) | (intro hW; exact (c2 _ hW).mono fun _ _ ⟨he, hx⟩ => ⟨he, bthen hW hx⟩) | (intro hW; simp only [Result.andThen, d0 _ hW, d1 _ hW]; first | exact ⟨trivial, rfl⟩ | exact ⟨rfl, rfl⟩ | rfl) | (intro hW; simp only [Result.andThen, e0 _ hW, e1 _ hW]; first | exact ⟨trivial, rfl⟩ | exact ⟨rfl, rfl⟩ | rfl))))
      refine wpQuiet_nil ?_
      intro W hW
      have HW : Aside (Below wr.heap.size wr W) := hW
      clear hW
      by_cases hv : v1 < v2
      · have hv' : ¬ v2 ≤ v1 := by omega
        go_wp2
        go_roundg (xs.length - (kk + 1))
        case measure => omega
        case rel => exact ⟨kk + 1, by omega, by omega, by omega, by go_num, bthen BW.out HW.out, by show riseB _ = _; rw [A.out, HS.out, Nat.add_sub_cancel]; simp [hv]⟩
      · have hv' : v2 ≤ v1 := by omega
        go_wp2
        go_ret
        exact ⟨ret_bool (by rw [A.out, HS.out, decide_eq_false (show ¬ v1 < v2 by omega)]; rfl), bthen BW.out HW.out⟩
    · have hltz : ¬ (kk : Int) < (xs.length : Int) := by omega
      clear hp
      go_wp2
      go_ret
      exact ⟨ret_bool (by rw [A.out, rise_end _ kk (by simp; omega)]), BW.out⟩

end Go.Proofs.YtdiamknibfamdaaGreat
