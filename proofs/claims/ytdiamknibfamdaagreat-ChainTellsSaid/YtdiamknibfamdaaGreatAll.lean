/- plan.all at its types, at whatever predicate that only makes memory. -/
import Derived.Test.YtdiamknibfamdaaGreatFind
namespace Go.Proofs.YtdiamknibfamdaaGreat
open Go.RowKit Go.Shelf


theorem not_any_not {α : Type} (p : α → Bool) (xs : List α) : (!xs.any (fun x => !p x)) = xs.all p := by induction xs <;> simp_all
theorem enters99 : ∀ args w, (callFunc 99 args).run Tryz.prog w = .ok (.enter 99 args) w := enters_of Tryz.func99 (by kernel_rfl) rfl
theorem enters193 : ∀ args w, (callFunc 193 args).run Tryz.prog w = .ok (.enter 193 args) w := enters_of Tryz.func193 (by kernel_rfl) rfl
theorem enters228 : ∀ args w, (callFunc 228 args).run Tryz.prog w = .ok (.enter 228 args) w := enters_of Tryz.func228 (by kernel_rfl) rfl
theorem enters202 : ∀ args w, (callFunc 202 args).run Tryz.prog w = .ok (.enter 202 args) w := enters_of Tryz.func202 (by kernel_rfl) rfl
theorem enters165 : ∀ args w, (callFunc 165 args).run Tryz.prog w = .ok (.enter 165 args) w := enters_of Tryz.func165 (by kernel_rfl) rfl
theorem enters110 : ∀ args w, (callFunc 110 args).run Tryz.prog w = .ok (.enter 110 args) w := enters_of Tryz.func110 (by kernel_rfl) rfl

theorem allClosure99 (p : LedgerR → Bool) (g : Nat) (lb : Array Value) (eg : ∀ args w, (callFunc g args).run Tryz.prog w = .ok (.enter g args) w) (B : Nat) (W : World) (x : LedgerR) (hB : B < W.heap.size)
    (hcell : W.cell? ⟨B, 0, none⟩ = some (.func (.func g) #[] lb))
    (hp : ∀ W', Below W.heap.size W W' → Calls Tryz.prog g (#[x.v] ++ lb) W' fun e w' => e = .returned (.bool (p x)) ∧ Below W'.heap.size W' w') :
    Calls Tryz.prog 99 #[x.v, .pointer (some ⟨B, 0, none⟩)] W fun e w' => e = .returned (.bool (!p x)) ∧ Below W.heap.size W w' := by
  have hcall := hp (W.alloc (.cells #[.int .u64 x.id, .int .i64 x.w, .int .i64 x.a, .slice x.frags.a x.frags.xs.length x.frags.c, .int .i64 x.closed, .int .u64 x.last] 68)) (b1 _ _)
  clear hp
  generalize p x = r at hcall ⊢
  go_enter Tryz.func99, Tryz.ntmps99
  go_wp2_with (go_at_fn g; refine hcall.mono ?_; rintro e w' ⟨rfl, hb'⟩)
  go_ret
  exact ⟨rfl, bthen (b1 _ _) hb'⟩

theorem all51 (s : Sl LedgerR) (p : LedgerR → Bool) (g : Nat) (lb : Array Value) (eg : ∀ args w, (callFunc g args).run Tryz.prog w = .ok (.enter g args) w) (w : World) (hs : SlOk eLedger w s)
    (hp : ∀ W x, x ∈ s.xs → Below w.heap.size w W → Calls Tryz.prog g (#[x.v] ++ lb) W fun e w' => e = .returned (.bool (p x)) ∧ Below W.heap.size W w') :
    Calls Tryz.prog 51 #[.slice s.a s.xs.length s.c, .func (.func g) #[] lb] w fun e w' => e = .returned (.bool (s.xs.all p)) ∧ Below w.heap.size w w' := by
  have hw1 : Below w.heap.size w (w.alloc (.cells #[.func (.func g) #[] lb] 95)) := b1 _ _
  have hcon := containsFunc98 s (fun x => !p x) 99 #[.pointer (some ⟨w.heap.size, 0, none⟩)] enters99 (w.alloc (.cells #[.func (.func g) #[] lb] 95)) (hs.mono hw1)
    (fun W x hx hb => allClosure99 p g lb eg w.heap.size W x (blt hb (by simp)) ((hb.cell (p := ⟨w.heap.size, 0, none⟩) (by simp)).trans (by simp))
      (fun W' hb' => hp W' x hx (bthen (bthen hw1 hb) hb')))
  rw [← not_any_not]
  generalize s.xs.any (fun x => !p x) = r at hcon ⊢
  clear hp hs eg
  go_enter Tryz.func51, Tryz.ntmps51
  go_wp2_with (go_at_call 98; refine hcon.mono ?_; rintro e w' ⟨rfl, hb'⟩)
  go_ret
  exact ⟨rfl, bthen hw1 hb'⟩

theorem allClosure193 (p : FragR → Bool) (g : Nat) (lb : Array Value) (eg : ∀ args w, (callFunc g args).run Tryz.prog w = .ok (.enter g args) w) (B : Nat) (W : World) (x : FragR) (hB : B < W.heap.size)
    (hcell : W.cell? ⟨B, 0, none⟩ = some (.func (.func g) #[] lb))
    (hp : ∀ W', Below W.heap.size W W' → Calls Tryz.prog g (#[x.v] ++ lb) W' fun e w' => e = .returned (.bool (p x)) ∧ Below W'.heap.size W' w') :
    Calls Tryz.prog 193 #[x.v, .pointer (some ⟨B, 0, none⟩)] W fun e w' => e = .returned (.bool (!p x)) ∧ Below W.heap.size W w' := by
  have hcall := hp (W.alloc (.cells #[.int .u64 x.first, .slice x.bookies.a x.bookies.xs.length x.bookies.c] 113)) (b1 _ _)
  clear hp
  generalize p x = r at hcall ⊢
  go_enter Tryz.func193, Tryz.ntmps193
  go_wp2_with (go_at_fn g; refine hcall.mono ?_; rintro e w' ⟨rfl, hb'⟩)
  go_ret
  exact ⟨rfl, bthen (b1 _ _) hb'⟩

theorem all151 (s : Sl FragR) (p : FragR → Bool) (g : Nat) (lb : Array Value) (eg : ∀ args w, (callFunc g args).run Tryz.prog w = .ok (.enter g args) w) (w : World) (hs : SlOk eFrag w s)
    (hp : ∀ W x, x ∈ s.xs → Below w.heap.size w W → Calls Tryz.prog g (#[x.v] ++ lb) W fun e w' => e = .returned (.bool (p x)) ∧ Below W.heap.size W w') :
    Calls Tryz.prog 151 #[.slice s.a s.xs.length s.c, .func (.func g) #[] lb] w fun e w' => e = .returned (.bool (s.xs.all p)) ∧ Below w.heap.size w w' := by
  have hw1 : Below w.heap.size w (w.alloc (.cells #[.func (.func g) #[] lb] 195)) := b1 _ _
  have hcon := containsFunc192 s (fun x => !p x) 193 #[.pointer (some ⟨w.heap.size, 0, none⟩)] enters193 (w.alloc (.cells #[.func (.func g) #[] lb] 195)) (hs.mono hw1)
    (fun W x hx hb => allClosure193 p g lb eg w.heap.size W x (blt hb (by simp)) ((hb.cell (p := ⟨w.heap.size, 0, none⟩) (by simp)).trans (by simp))
      (fun W' hb' => hp W' x hx (bthen (bthen hw1 hb) hb')))
  rw [← not_any_not]
  generalize s.xs.any (fun x => !p x) = r at hcon ⊢
  clear hp hs eg
  go_enter Tryz.func151, Tryz.ntmps151
  go_wp2_with (go_at_call 192; refine hcon.mono ?_; rintro e w' ⟨rfl, hb'⟩)
  go_ret
  exact ⟨rfl, bthen hw1 hb'⟩

theorem allClosure228 (p : Place → Bool) (g : Nat) (lb : Array Value) (eg : ∀ args w, (callFunc g args).run Tryz.prog w = .ok (.enter g args) w) (B : Nat) (W : World) (x : Place) (hB : B < W.heap.size)
    (hcell : W.cell? ⟨B, 0, none⟩ = some (.func (.func g) #[] lb))
    (hp : ∀ W', Below W.heap.size W W' → Calls Tryz.prog g (#[x.v] ++ lb) W' fun e w' => e = .returned (.bool (p x)) ∧ Below W'.heap.size W' w') :
    Calls Tryz.prog 228 #[x.v, .pointer (some ⟨B, 0, none⟩)] W fun e w' => e = .returned (.bool (!p x)) ∧ Below W.heap.size W w' := by
  have hcall := hp (W.alloc (.cells #[.int .i64 x.node, .int .u64 x.serial] 59)) (b1 _ _)
  clear hp
  generalize p x = r at hcall ⊢
  go_enter Tryz.func228, Tryz.ntmps228
  go_wp2_with (go_at_fn g; refine hcall.mono ?_; rintro e w' ⟨rfl, hb'⟩)
  go_ret
  exact ⟨rfl, bthen (b1 _ _) hb'⟩

theorem all196 (s : Sl Place) (p : Place → Bool) (g : Nat) (lb : Array Value) (eg : ∀ args w, (callFunc g args).run Tryz.prog w = .ok (.enter g args) w) (w : World) (hs : SlOk ePlace w s)
    (hp : ∀ W x, x ∈ s.xs → Below w.heap.size w W → Calls Tryz.prog g (#[x.v] ++ lb) W fun e w' => e = .returned (.bool (p x)) ∧ Below W.heap.size W w') :
    Calls Tryz.prog 196 #[.slice s.a s.xs.length s.c, .func (.func g) #[] lb] w fun e w' => e = .returned (.bool (s.xs.all p)) ∧ Below w.heap.size w w' := by
  have hw1 : Below w.heap.size w (w.alloc (.cells #[.func (.func g) #[] lb] 129)) := b1 _ _
  have hcon := containsFunc135 s (fun x => !p x) 228 #[.pointer (some ⟨w.heap.size, 0, none⟩)] enters228 (w.alloc (.cells #[.func (.func g) #[] lb] 129)) (hs.mono hw1)
    (fun W x hx hb => allClosure228 p g lb eg w.heap.size W x (blt hb (by simp)) ((hb.cell (p := ⟨w.heap.size, 0, none⟩) (by simp)).trans (by simp))
      (fun W' hb' => hp W' x hx (bthen (bthen hw1 hb) hb')))
  rw [← not_any_not]
  generalize s.xs.any (fun x => !p x) = r at hcon ⊢
  clear hp hs eg
  go_enter Tryz.func196, Tryz.ntmps196
  go_wp2_with (go_at_call 135; refine hcon.mono ?_; rintro e w' ⟨rfl, hb'⟩)
  go_ret
  exact ⟨rfl, bthen hw1 hb'⟩

theorem allClosure202 (p : Mark → Bool) (g : Nat) (lb : Array Value) (eg : ∀ args w, (callFunc g args).run Tryz.prog w = .ok (.enter g args) w) (B : Nat) (W : World) (x : Mark) (hB : B < W.heap.size)
    (hcell : W.cell? ⟨B, 0, none⟩ = some (.func (.func g) #[] lb))
    (hp : ∀ W', Below W.heap.size W W' → Calls Tryz.prog g (#[x.v] ++ lb) W' fun e w' => e = .returned (.bool (p x)) ∧ Below W'.heap.size W' w') :
    Calls Tryz.prog 202 #[x.v, .pointer (some ⟨B, 0, none⟩)] W fun e w' => e = .returned (.bool (!p x)) ∧ Below W.heap.size W w' := by
  have hcall := hp (W.alloc (.cells #[.int .i64 x.producer, .int .u64 x.seq, .int .u64 x.offset] 134)) (b1 _ _)
  clear hp
  generalize p x = r at hcall ⊢
  go_enter Tryz.func202, Tryz.ntmps202
  go_wp2_with (go_at_fn g; refine hcall.mono ?_; rintro e w' ⟨rfl, hb'⟩)
  go_ret
  exact ⟨rfl, bthen (b1 _ _) hb'⟩

theorem all162 (s : Sl Mark) (p : Mark → Bool) (g : Nat) (lb : Array Value) (eg : ∀ args w, (callFunc g args).run Tryz.prog w = .ok (.enter g args) w) (w : World) (hs : SlOk eMark w s)
    (hp : ∀ W x, x ∈ s.xs → Below w.heap.size w W → Calls Tryz.prog g (#[x.v] ++ lb) W fun e w' => e = .returned (.bool (p x)) ∧ Below W.heap.size W w') :
    Calls Tryz.prog 162 #[.slice s.a s.xs.length s.c, .func (.func g) #[] lb] w fun e w' => e = .returned (.bool (s.xs.all p)) ∧ Below w.heap.size w w' := by
  have hw1 : Below w.heap.size w (w.alloc (.cells #[.func (.func g) #[] lb] 205)) := b1 _ _
  have hcon := containsFunc201 s (fun x => !p x) 202 #[.pointer (some ⟨w.heap.size, 0, none⟩)] enters202 (w.alloc (.cells #[.func (.func g) #[] lb] 205)) (hs.mono hw1)
    (fun W x hx hb => allClosure202 p g lb eg w.heap.size W x (blt hb (by simp)) ((hb.cell (p := ⟨w.heap.size, 0, none⟩) (by simp)).trans (by simp))
      (fun W' hb' => hp W' x hx (bthen (bthen hw1 hb) hb')))
  rw [← not_any_not]
  generalize s.xs.any (fun x => !p x) = r at hcon ⊢
  clear hp hs eg
  go_enter Tryz.func162, Tryz.ntmps162
  go_wp2_with (go_at_call 201; refine hcon.mono ?_; rintro e w' ⟨rfl, hb'⟩)
  go_ret
  exact ⟨rfl, bthen hw1 hb'⟩

theorem allClosure165 (p : Cursor → Bool) (g : Nat) (lb : Array Value) (eg : ∀ args w, (callFunc g args).run Tryz.prog w = .ok (.enter g args) w) (B : Nat) (W : World) (x : Cursor) (hB : B < W.heap.size)
    (hcell : W.cell? ⟨B, 0, none⟩ = some (.func (.func g) #[] lb))
    (hp : ∀ W', Below W.heap.size W W' → Calls Tryz.prog g (#[x.v] ++ lb) W' fun e w' => e = .returned (.bool (p x)) ∧ Below W'.heap.size W' w') :
    Calls Tryz.prog 165 #[x.v, .pointer (some ⟨B, 0, none⟩)] W fun e w' => e = .returned (.bool (!p x)) ∧ Below W.heap.size W w' := by
  have hcall := hp (W.alloc (.cells #[.int .i64 x.sub, .int .u64 x.at_] 151)) (b1 _ _)
  clear hp
  generalize p x = r at hcall ⊢
  go_enter Tryz.func165, Tryz.ntmps165
  go_wp2_with (go_at_fn g; refine hcall.mono ?_; rintro e w' ⟨rfl, hb'⟩)
  go_ret
  exact ⟨rfl, bthen (b1 _ _) hb'⟩

theorem all107 (s : Sl Cursor) (p : Cursor → Bool) (g : Nat) (lb : Array Value) (eg : ∀ args w, (callFunc g args).run Tryz.prog w = .ok (.enter g args) w) (w : World) (hs : SlOk eCursor w s)
    (hp : ∀ W x, x ∈ s.xs → Below w.heap.size w W → Calls Tryz.prog g (#[x.v] ++ lb) W fun e w' => e = .returned (.bool (p x)) ∧ Below W.heap.size W w') :
    Calls Tryz.prog 107 #[.slice s.a s.xs.length s.c, .func (.func g) #[] lb] w fun e w' => e = .returned (.bool (s.xs.all p)) ∧ Below w.heap.size w w' := by
  have hw1 : Below w.heap.size w (w.alloc (.cells #[.func (.func g) #[] lb] 154)) := b1 _ _
  have hcon := containsFunc164 s (fun x => !p x) 165 #[.pointer (some ⟨w.heap.size, 0, none⟩)] enters165 (w.alloc (.cells #[.func (.func g) #[] lb] 154)) (hs.mono hw1)
    (fun W x hx hb => allClosure165 p g lb eg w.heap.size W x (blt hb (by simp)) ((hb.cell (p := ⟨w.heap.size, 0, none⟩) (by simp)).trans (by simp))
      (fun W' hb' => hp W' x hx (bthen (bthen hw1 hb) hb')))
  rw [← not_any_not]
  generalize s.xs.any (fun x => !p x) = r at hcon ⊢
  clear hp hs eg
  go_enter Tryz.func107, Tryz.ntmps107
  go_wp2_with (go_at_call 164; refine hcon.mono ?_; rintro e w' ⟨rfl, hb'⟩)
  go_ret
  exact ⟨rfl, bthen hw1 hb'⟩

theorem allClosure110 (p : Past → Bool) (g : Nat) (lb : Array Value) (eg : ∀ args w, (callFunc g args).run Tryz.prog w = .ok (.enter g args) w) (B : Nat) (W : World) (x : Past) (hB : B < W.heap.size)
    (hcell : W.cell? ⟨B, 0, none⟩ = some (.func (.func g) #[] lb))
    (hp : ∀ W', Below W.heap.size W W' → Calls Tryz.prog g (#[x.v] ++ lb) W' fun e w' => e = .returned (.bool (p x)) ∧ Below W'.heap.size W' w') :
    Calls Tryz.prog 110 #[x.v, .pointer (some ⟨B, 0, none⟩)] W fun e w' => e = .returned (.bool (!p x)) ∧ Below W.heap.size W w' := by
  have hcall := hp (W.alloc (.cells #[.int .i64 x.who, .int .u64 x.inc, .int .u64 x.n, .int .i64 x.out.code, .int .u64 x.out.epoch, .int .u64 x.out.at_, .int .u64 x.out.ledger, .int .i64 x.out.owner] 82)) (b1 _ _)
  clear hp
  generalize p x = r at hcall ⊢
  go_enter Tryz.func110, Tryz.ntmps110
  go_wp2_with (go_at_fn g; refine hcall.mono ?_; rintro e w' ⟨rfl, hb'⟩)
  go_ret
  exact ⟨rfl, bthen (b1 _ _) hb'⟩

theorem all61 (s : Sl Past) (p : Past → Bool) (g : Nat) (lb : Array Value) (eg : ∀ args w, (callFunc g args).run Tryz.prog w = .ok (.enter g args) w) (w : World) (hs : SlOk ePast w s)
    (hp : ∀ W x, x ∈ s.xs → Below w.heap.size w W → Calls Tryz.prog g (#[x.v] ++ lb) W fun e w' => e = .returned (.bool (p x)) ∧ Below W.heap.size W w') :
    Calls Tryz.prog 61 #[.slice s.a s.xs.length s.c, .func (.func g) #[] lb] w fun e w' => e = .returned (.bool (s.xs.all p)) ∧ Below w.heap.size w w' := by
  have hw1 : Below w.heap.size w (w.alloc (.cells #[.func (.func g) #[] lb] 102)) := b1 _ _
  have hcon := containsFunc109 s (fun x => !p x) 110 #[.pointer (some ⟨w.heap.size, 0, none⟩)] enters110 (w.alloc (.cells #[.func (.func g) #[] lb] 102)) (hs.mono hw1)
    (fun W x hx hb => allClosure110 p g lb eg w.heap.size W x (blt hb (by simp)) ((hb.cell (p := ⟨w.heap.size, 0, none⟩) (by simp)).trans (by simp))
      (fun W' hb' => hp W' x hx (bthen (bthen hw1 hb) hb')))
  rw [← not_any_not]
  generalize s.xs.any (fun x => !p x) = r at hcon ⊢
  clear hp hs eg
  go_enter Tryz.func61, Tryz.ntmps61
  go_wp2_with (go_at_call 109; refine hcon.mono ?_; rintro e w' ⟨rfl, hb'⟩)
  go_ret
  exact ⟨rfl, bthen hw1 hb'⟩

end Go.Proofs.YtdiamknibfamdaaGreat
