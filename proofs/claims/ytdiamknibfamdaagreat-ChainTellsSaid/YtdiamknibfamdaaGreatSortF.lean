/- slices.SortFunc at Place, Mark, Past, Cursor. -/
import Derived.Test.YtdiamknibfamdaaGreatRow
import Derived.Test.YtdiamknibfamdaaGreatLaid
import Derived.Test.YtdiamknibfamdaaGreatSmall
import Derived.Shelf.SlSortCmp.NoneTotal
namespace Go.Proofs.YtdiamknibfamdaaGreat
open Go.RowKit Go.Shelf Go.Sort


variable {α : Type}
theorem ltOf_cmp (x y : Int) : decide (cmpB x y < 0) = decide (x < y) := by
  unfold cmpB
  split
  · simp_all
  · split <;> simp_all <;> omega
theorem swo_key (key : α → Int) : SWO (ltOf fun x y => cmpB (key x) (key y)) := by
  refine ⟨fun x => ?_, fun x y z => ?_, fun x y z => ?_⟩ <;> simp only [ltOf, ltOf_cmp, decide_eq_true_eq, decide_eq_false_iff_not] <;> omega
/-- What a sort in place leaves: the row permuted, sorted by a number of its elements'. -/
def SortedBy (E : El α) (t : TypeId) (key : α → Int) (base : Nat) (a : Option Addr) (c : Nat) (xs : List α) (w : World) (e : Ending) (w' : World) : Prop :=
  e = .returned (.tuple #[]) ∧ ∃ ys : List α, ys.Perm xs ∧ ys.Pairwise (fun x y => key x ≤ key y) ∧ w'.ownsRow base t E.k (.slice a ys.length c) ys.length (ys.flatMap E.enc) ∧ ys.length = xs.length ∧ w.grownBy w' (Value.slice a xs.length c).ownBlock
theorem sorted_of [Inhabited α] (E : El α) (t : TypeId) (key : α → Int) (nsort ncl : Nat) {a : Option Addr} {c : Nat} {xs : List α} {base : Nat} {w : World}
    (h0 : Calls Tryz.prog nsort #[.slice none 0 0, .func (.func ncl) #[] #[]] w fun e w' => e = .returned (.tuple #[]) ∧ w' = w)
    (h1 : ∀ g, HoldsK E.enc E.k w g 0 xs.toArray → g < w.heap.size → Calls Tryz.prog nsort #[.slice (some ⟨g, 0, none⟩) xs.toArray.size c, .func (.func ncl) #[] #[]] w fun e w' =>
      e = .returned (.tuple #[]) ∧ ∃ d' n os, PermIn 0 xs.toArray.size xs.toArray d' ∧ SortedIn (ltOf fun x y => cmpB (key x) (key y)) 0 xs.toArray.size d' ∧ w' = sortWorldK E.enc E.k w g 0 n d' os)
    (h : w.ownsRow base t E.k (.slice a xs.length c) xs.length (xs.flatMap E.enc)) :
    Calls Tryz.prog nsort #[.slice a xs.length c, .func (.func ncl) #[] #[]] w (SortedBy E t key base a c xs w) := by
  have h' := h
  obtain ⟨hl, ⟨hv, hn⟩ | ⟨g, cap, cur, hv, hb, hg, hle, hm, hsz, ht⟩⟩ := h'
  · have hx : xs = [] := List.eq_nil_of_length_eq_zero hn
    subst hx
    cases hv
    refine h0.mono fun e w' ⟨he, hw⟩ => ?_
    subst hw
    exact ⟨he, [], List.Perm.refl _, List.Pairwise.nil, h, rfl, ⟨rfl, rfl, rfl, Nat.le_refl _, fun _ _ _ => rfl⟩⟩
  · cases hv
    obtain ⟨hH, hgl, _⟩ := own_holds h
    refine (h1 g hH hgl).mono fun e w' ⟨he, d', n, os, hp, hs, hw⟩ => ?_
    obtain ⟨hps, _, hpm⟩ := hp
    have e1 : d'.extract 0 xs.toArray.size = d' := by rw [← hps]; exact Array.extract_size
    rw [e1, Array.extract_size] at hpm
    have hpm' : d'.toList.Perm xs := hpm
    have hlen : d'.toList.length = xs.length := hpm'.length_eq
    have hk : flatK E.enc E.k d' = (d'.toList.flatMap E.enc).toArray := flatK_eq E d'.toList
    have hF : (d'.toList.flatMap E.enc).toArray.size = xs.length * E.k := by rw [← hlen, ← flat_len E d'.toList]; simp
    have ho := put_own (m := n) (os := os) h hF
    rw [hw]
    unfold sortWorldK putRowK
    rw [hk]
    refine ⟨he, d'.toList, hpm', ?_, by rw [hlen]; exact ho.1, hlen, ho.2⟩
    rw [List.pairwise_iff_getElem]
    intro i j hi hj hij
    have h2 := hs i j (Nat.zero_le _) hij (by simp at hj; rw [hps] at hj; exact hj)
    have hi' : i < d'.size := by simpa using hi
    have hj' : j < d'.size := by simpa using hj
    rw [getElem!_pos d' j hj', getElem!_pos d' i hi'] at h2
    simp only [ltOf, ltOf_cmp, decide_eq_false_iff_not] at h2
    have h3 : key d'[i] ≤ key d'[j] := by omega
    simpa using h3

theorem cmp195 (x y : Place) (W : World) : Calls Tryz.prog 195 #[x.v, y.v] W fun e w' => e = .returned (.int .i64 (cmpB x.node y.node)) ∧ w' = (W.alloc (.cells #[.int .i64 x.node, .int .u64 x.serial] 59)).alloc (.cells #[.int .i64 y.node, .int .u64 y.serial] 59) := by
  go_enter Tryz.func195, Tryz.ntmps195
  go_wp2_with (go_at_call 128; refine (compare128 _ _ _).mono ?_; rintro e w' ⟨rfl, rfl⟩)
  go_ret
  exact ⟨rfl, rfl⟩
theorem cmpLays195 (blk off size : Nat) (w : World) : CmpLays Tryz.prog 195 #[] ePlace.enc ePlace.k (fun x y : Place => cmpB x.node y.node) blk off size w := fun m os dk _ x y =>
  (cmp195 x y _).mono fun e w' ⟨he, hw⟩ => ⟨he, 0, #[.cells #[.int .i64 x.node, .int .u64 x.serial] 59, .cells #[.int .i64 y.node, .int .u64 y.serial] 59], by rw [hw, alloc_eq_grow, alloc_eq_grow, grow_grow]; rfl⟩
theorem enters195 : ∀ args w, (callFunc 195 args).run Tryz.prog w = .ok (.enter 195 args) w := enters_of Tryz.func195 (by kernel_rfl) rfl
theorem sortFunc194 (a : Option Addr) (c : Nat) (xs : List Place) (base : Nat) (w : World) (h : w.ownsRow base 59 2 (.slice a xs.length c) xs.length (xs.flatMap ePlace.enc)) (hsz : xs.length < 4611686018427387904) :
    Calls Tryz.prog 194 #[.slice a xs.length c, .func (.func 195) #[] #[]] w (SortedBy ePlace 59 (fun x : Place => x.node) base a c xs w) :=
  sorted_of ePlace 59 (fun x : Place => x.node) 194 195 (AnyF.slices_SortFunc_none sfPlace none 0 (.func (.func 195) #[] #[]) w)
    (fun g hH hg => AnyQ.slices_SortFunc sfPlace 2 Tryz.isAgg59 Tryz.sizeOf59 ePlace.enc ePlace.len ePlace.one (fun x y : Place => cmpB x.node y.node) (swo_key fun x : Place => x.node) 195 #[] g 0 c xs.toArray w enters195 (cmpLays195 _ _ _ _) hH hg (by simpa using hsz)) h

theorem cmp157 (x y : Mark) (W : World) : Calls Tryz.prog 157 #[x.v, y.v] W fun e w' => e = .returned (.int .i64 (cmpB x.offset y.offset)) ∧ w' = (W.alloc (.cells #[.int .i64 x.producer, .int .u64 x.seq, .int .u64 x.offset] 134)).alloc (.cells #[.int .i64 y.producer, .int .u64 y.seq, .int .u64 y.offset] 134) := by
  go_enter Tryz.func157, Tryz.ntmps157
  go_wp2_with (go_at_call 122; refine (compare122 _ _ _).mono ?_; rintro e w' ⟨rfl, rfl⟩)
  go_ret
  exact ⟨rfl, rfl⟩
theorem cmpLays157 (blk off size : Nat) (w : World) : CmpLays Tryz.prog 157 #[] eMark.enc eMark.k (fun x y : Mark => cmpB x.offset y.offset) blk off size w := fun m os dk _ x y =>
  (cmp157 x y _).mono fun e w' ⟨he, hw⟩ => ⟨he, 0, #[.cells #[.int .i64 x.producer, .int .u64 x.seq, .int .u64 x.offset] 134, .cells #[.int .i64 y.producer, .int .u64 y.seq, .int .u64 y.offset] 134], by rw [hw, alloc_eq_grow, alloc_eq_grow, grow_grow]; rfl⟩
theorem enters157 : ∀ args w, (callFunc 157 args).run Tryz.prog w = .ok (.enter 157 args) w := enters_of Tryz.func157 (by kernel_rfl) rfl
theorem sortFunc156 (a : Option Addr) (c : Nat) (xs : List Mark) (base : Nat) (w : World) (h : w.ownsRow base 134 3 (.slice a xs.length c) xs.length (xs.flatMap eMark.enc)) (hsz : xs.length < 4611686018427387904) :
    Calls Tryz.prog 156 #[.slice a xs.length c, .func (.func 157) #[] #[]] w (SortedBy eMark 134 (fun x : Mark => x.offset) base a c xs w) :=
  sorted_of eMark 134 (fun x : Mark => x.offset) 156 157 (AnyF.slices_SortFunc_none sfMark none 0 (.func (.func 157) #[] #[]) w)
    (fun g hH hg => AnyQ.slices_SortFunc sfMark 3 Tryz.isAgg134 Tryz.sizeOf134 eMark.enc eMark.len eMark.one (fun x y : Mark => cmpB x.offset y.offset) (swo_key fun x : Mark => x.offset) 157 #[] g 0 c xs.toArray w enters157 (cmpLays157 _ _ _ _) hH hg (by simpa using hsz)) h

theorem cmp127 (x y : Past) (W : World) : Calls Tryz.prog 127 #[x.v, y.v] W fun e w' => e = .returned (.int .i64 (cmpB x.who y.who)) ∧ w' = (W.alloc (.cells #[.int .i64 x.who, .int .u64 x.inc, .int .u64 x.n, .int .i64 x.out.code, .int .u64 x.out.epoch, .int .u64 x.out.at_, .int .u64 x.out.ledger, .int .i64 x.out.owner] 82)).alloc (.cells #[.int .i64 y.who, .int .u64 y.inc, .int .u64 y.n, .int .i64 y.out.code, .int .u64 y.out.epoch, .int .u64 y.out.at_, .int .u64 y.out.ledger, .int .i64 y.out.owner] 82) := by
  go_enter Tryz.func127, Tryz.ntmps127
  go_wp2_with (go_at_call 128; refine (compare128 _ _ _).mono ?_; rintro e w' ⟨rfl, rfl⟩)
  go_ret
  exact ⟨rfl, rfl⟩
theorem cmpLays127 (blk off size : Nat) (w : World) : CmpLays Tryz.prog 127 #[] ePast.enc ePast.k (fun x y : Past => cmpB x.who y.who) blk off size w := fun m os dk _ x y =>
  (cmp127 x y _).mono fun e w' ⟨he, hw⟩ => ⟨he, 0, #[.cells #[.int .i64 x.who, .int .u64 x.inc, .int .u64 x.n, .int .i64 x.out.code, .int .u64 x.out.epoch, .int .u64 x.out.at_, .int .u64 x.out.ledger, .int .i64 x.out.owner] 82, .cells #[.int .i64 y.who, .int .u64 y.inc, .int .u64 y.n, .int .i64 y.out.code, .int .u64 y.out.epoch, .int .u64 y.out.at_, .int .u64 y.out.ledger, .int .i64 y.out.owner] 82], by rw [hw, alloc_eq_grow, alloc_eq_grow, grow_grow]; rfl⟩
theorem enters127 : ∀ args w, (callFunc 127 args).run Tryz.prog w = .ok (.enter 127 args) w := enters_of Tryz.func127 (by kernel_rfl) rfl
theorem sortFunc126 (a : Option Addr) (c : Nat) (xs : List Past) (base : Nat) (w : World) (h : w.ownsRow base 82 8 (.slice a xs.length c) xs.length (xs.flatMap ePast.enc)) (hsz : xs.length < 4611686018427387904) :
    Calls Tryz.prog 126 #[.slice a xs.length c, .func (.func 127) #[] #[]] w (SortedBy ePast 82 (fun x : Past => x.who) base a c xs w) :=
  sorted_of ePast 82 (fun x : Past => x.who) 126 127 (AnyF.slices_SortFunc_none sfPast none 0 (.func (.func 127) #[] #[]) w)
    (fun g hH hg => AnyQ.slices_SortFunc sfPast 8 Tryz.isAgg82 Tryz.sizeOf82 ePast.enc ePast.len ePast.one (fun x y : Past => cmpB x.who y.who) (swo_key fun x : Past => x.who) 127 #[] g 0 c xs.toArray w enters127 (cmpLays127 _ _ _ _) hH hg (by simpa using hsz)) h

theorem cmp243 (x y : Cursor) (W : World) : Calls Tryz.prog 243 #[x.v, y.v] W fun e w' => e = .returned (.int .i64 (cmpB x.sub y.sub)) ∧ w' = (W.alloc (.cells #[.int .i64 x.sub, .int .u64 x.at_] 151)).alloc (.cells #[.int .i64 y.sub, .int .u64 y.at_] 151) := by
  go_enter Tryz.func243, Tryz.ntmps243
  go_wp2_with (go_at_call 128; refine (compare128 _ _ _).mono ?_; rintro e w' ⟨rfl, rfl⟩)
  go_ret
  exact ⟨rfl, rfl⟩
theorem cmpLays243 (blk off size : Nat) (w : World) : CmpLays Tryz.prog 243 #[] eCursor.enc eCursor.k (fun x y : Cursor => cmpB x.sub y.sub) blk off size w := fun m os dk _ x y =>
  (cmp243 x y _).mono fun e w' ⟨he, hw⟩ => ⟨he, 0, #[.cells #[.int .i64 x.sub, .int .u64 x.at_] 151, .cells #[.int .i64 y.sub, .int .u64 y.at_] 151], by rw [hw, alloc_eq_grow, alloc_eq_grow, grow_grow]; rfl⟩
theorem enters243 : ∀ args w, (callFunc 243 args).run Tryz.prog w = .ok (.enter 243 args) w := enters_of Tryz.func243 (by kernel_rfl) rfl
theorem sortFunc242 (a : Option Addr) (c : Nat) (xs : List Cursor) (base : Nat) (w : World) (h : w.ownsRow base 151 2 (.slice a xs.length c) xs.length (xs.flatMap eCursor.enc)) (hsz : xs.length < 4611686018427387904) :
    Calls Tryz.prog 242 #[.slice a xs.length c, .func (.func 243) #[] #[]] w (SortedBy eCursor 151 (fun x : Cursor => x.sub) base a c xs w) :=
  sorted_of eCursor 151 (fun x : Cursor => x.sub) 242 243 (AnyF.slices_SortFunc_none sfCursor none 0 (.func (.func 243) #[] #[]) w)
    (fun g hH hg => AnyQ.slices_SortFunc sfCursor 2 Tryz.isAgg151 Tryz.sizeOf151 eCursor.enc eCursor.len eCursor.one (fun x y : Cursor => cmpB x.sub y.sub) (swo_key fun x : Cursor => x.sub) 243 #[] g 0 c xs.toArray w enters243 (cmpLays243 _ _ _ _) hH hg (by simpa using hsz)) h

end Go.Proofs.YtdiamknibfamdaaGreat
