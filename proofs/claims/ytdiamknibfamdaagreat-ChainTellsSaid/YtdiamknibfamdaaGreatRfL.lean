/- The references of layer 7, in plain words: fragments. -/
import Derived.Test.YtdiamknibfamdaaGreatBack
namespace Go.Proofs.YtdiamknibfamdaaGreat

theorem rise_get : ∀ (l : List Int), riseB l = true ↔ ∀ (j : Nat) (a b : Int), l[j]? = some a → l[j + 1]? = some b → a < b
  | [] => ⟨fun _ _ _ _ h => by simp at h, fun _ => rfl⟩
  | [x] => ⟨fun _ j a b _ h => by simp at h, fun _ => rfl⟩
  | x :: y :: t => by
    simp only [riseB, Bool.and_eq_true, decide_eq_true_eq, rise_get (y :: t)]
    constructor
    · rintro ⟨h1, h2⟩ j a b ha hb
      cases j with
      | zero => simp at ha hb; subst ha; subst hb; exact h1
      | succ j => exact h2 j a b (by simpa using ha) (by simpa using hb)
    · intro h
      exact ⟨h 0 x y rfl rfl, fun j a b ha hb => h (j + 1) a b (by simpa using ha) (by simpa using hb)⟩
theorem nodup_get {α : Type} (l : List α) : l.Nodup ↔ ∀ (k : Nat) (x : α), l[k]? = some x → ∀ (j : Nat) (y : α), j < k → l[j]? = some y → y ≠ x := by
  unfold List.Nodup
  rw [List.pairwise_iff_getElem]
  constructor
  · intro h k x hk j y hj hy
    obtain ⟨h1, rfl⟩ := List.getElem?_eq_some_iff.1 hk
    obtain ⟨h2, rfl⟩ := List.getElem?_eq_some_iff.1 hy
    exact h j k h2 h1 hj
  · intro h i j hi hj hij
    exact h j _ (List.getElem?_eq_getElem hj) i _ hij (List.getElem?_eq_getElem hi)
theorem mem_get {α : Type} {l : List α} {x : α} : x ∈ l ↔ ∃ i : Nat, l[i]? = some x := List.mem_iff_getElem?

def PlaceGood (b : List Place) (k : Nat) : Prop := ∀ x, b[k]? = some x → placeB x = true ∧ ∀ (j : Nat) (y : Place), j < k → b[j]? = some y → y.node ≠ x.node
def FragGood (w : Int) (l : List FragR) (i : Nat) : Prop :=
  ∀ f, l[i]? = some f → f.first ≤ 9 ∧ (∀ (j : Nat) (g : FragR), j + 1 = i → l[j]? = some g → g.first < f.first) ∧ w ≤ f.bookies.xs.length ∧ f.bookies.xs.length ≤ 5 ∧ ∀ k, k < f.bookies.xs.length → PlaceGood f.bookies.xs k
def FragsGood (w : Int) (l : List FragR) : Prop := 1 ≤ l.length ∧ l.length ≤ 6 ∧ (∃ f, l[0]? = some f ∧ f.first = 1) ∧ ∀ i, i < l.length → FragGood w l i

theorem places_iff (b : List Place) : (b.all placeB && distinctB (b.map (·.node))) = true ↔ ∀ k, k < b.length → PlaceGood b k := by
  unfold distinctB
  rw [Bool.and_eq_true, List.all_eq_true, decide_eq_true_eq, nodup_get]
  constructor
  · rintro ⟨h1, h2⟩ k hk x hx
    refine ⟨h1 x (List.mem_of_getElem? hx), fun j y hj hy => ?_⟩
    exact h2 k x.node (by rw [List.getElem?_map, hx]; rfl) j y.node hj (by rw [List.getElem?_map, hy]; rfl)
  · intro h
    refine ⟨fun x hx => ?_, fun k x hk j y hj hy => ?_⟩
    · obtain ⟨i, hi⟩ := mem_get.1 hx
      exact (h i (List.getElem?_eq_some_iff.1 hi).1 x hi).1
    · rw [List.getElem?_map] at hk hy
      obtain ⟨x', hx', rfl⟩ := Option.map_eq_some_iff.1 hk
      obtain ⟨y', hy', rfl⟩ := Option.map_eq_some_iff.1 hy
      exact (h k (List.getElem?_eq_some_iff.1 hx').1 x' hx').2 j y' hj hy'

theorem frags_iff (w : Int) (l : List FragR) (hU : ∀ f ∈ l, U64 f.first) : mayFragsB w (l.map FragR.d) = true ↔ FragsGood w l := by
  have e1 : (l.map FragR.d).map (·.first) = l.map (·.first) := by rw [List.map_map]; rfl
  have e2 : firstIsOne (l.map FragR.d) = true ↔ ∃ f, l[0]? = some f ∧ f.first = 1 := by
    cases l with
    | nil => simp [firstIsOne]
    | cons x t => simp [firstIsOne, FragR.d]
  unfold mayFragsB FragsGood
  rw [e1, Bool.and_eq_true, Bool.and_eq_true, Bool.and_eq_true, e2, List.all_eq_true, rise_get]
  simp only [fromB, Bool.and_eq_true, decide_eq_true_eq, List.length_map]
  constructor
  · rintro ⟨⟨⟨h1, h2⟩, h3⟩, h4⟩
    refine ⟨by omega, by omega, h2, fun i hi f hf => ?_⟩
    have h5 := h3 f.d (List.mem_map.2 ⟨f, List.mem_of_getElem? hf, rfl⟩)
    unfold fragB at h5
    simp only [Bool.and_eq_true, fromB, decide_eq_true_eq] at h5
    obtain ⟨⟨⟨⟨_, h6⟩, h7, h8⟩, h9⟩, h10⟩ := h5
    refine ⟨h6, fun j g hj hg => ?_, h7, ?_, (places_iff f.bookies.xs).1 (by rw [Bool.and_eq_true]; exact ⟨h9, h10⟩)⟩
    · subst hj
      exact h4 j g.first f.first (by rw [List.getElem?_map, hg]; rfl) (by rw [List.getElem?_map, hf]; rfl)
    · have : ((FragR.d f).bookies.length : Int) ≤ 5 := h8
      simp only [FragR.d] at this
      omega
  · rintro ⟨h1, h2, ⟨f0, hf0, h1f⟩, h3⟩
    have hr : ∀ (j : Nat) (a b : Int), (l.map (·.first))[j]? = some a → (l.map (·.first))[j + 1]? = some b → a < b := by
      intro j a b ha hb
      rw [List.getElem?_map] at ha hb
      obtain ⟨g, hg, rfl⟩ := Option.map_eq_some_iff.1 ha
      obtain ⟨f, hf, rfl⟩ := Option.map_eq_some_iff.1 hb
      exact (h3 (j + 1) (List.getElem?_eq_some_iff.1 hf).1 f hf).2.1 j g rfl hg
    have hone : ∀ (i : Nat) (f : FragR), l[i]? = some f → 1 ≤ f.first := by
      intro i
      induction i with
      | zero => intro f hf; rw [hf0] at hf; cases hf; omega
      | succ i ih =>
        intro f hf
        obtain ⟨g, hg⟩ : ∃ g, l[i]? = some g := ⟨_, List.getElem?_eq_getElem (by have := (List.getElem?_eq_some_iff.1 hf).1; omega)⟩
        have := ih g hg
        have := (h3 (i + 1) (List.getElem?_eq_some_iff.1 hf).1 f hf).2.1 i g rfl hg
        omega
    refine ⟨⟨⟨by omega, ⟨f0, hf0, h1f⟩⟩, fun d hd => ?_⟩, hr⟩
    obtain ⟨f, hf, rfl⟩ := List.mem_map.1 hd
    obtain ⟨i, hi⟩ := mem_get.1 hf
    obtain ⟨h5, _, h6, h7, h8⟩ := h3 i (List.getElem?_eq_some_iff.1 hi).1 f hi
    have h9 := (places_iff f.bookies.xs).2 h8
    rw [Bool.and_eq_true] at h9
    unfold fragB fromB
    simp only [Bool.and_eq_true, decide_eq_true_eq]
    have h10 := hone i f hi
    exact ⟨⟨⟨⟨h10, h5⟩, h6, by simp only [FragR.d]; omega⟩, h9.1⟩, h9.2⟩
end Go.Proofs.YtdiamknibfamdaaGreat
/- The references of layer 7: MayPlace, MayFrags. -/
namespace Go.Proofs.YtdiamknibfamdaaGreat
open Go.RowKit Go.Shelf
attribute [local go_sem ↓] Go.wp_at_zero Go.wp_at_succ

set_option maxHeartbeats 1000000 in
theorem refPlace204 (x : Place) (w : World) : Calls Tryz.prog 204 #[x.v] w fun e w' => e = .returned (.bool (placeB x)) ∧ Below w.heap.size w w' := by
  have e0 : placeB x = (decide (1 ≤ x.node) && decide (x.node ≤ 15) && (decide (1 ≤ x.serial) && decide (x.serial ≤ 4611686018427387903))) := rfl
  generalize placeB x = r at e0 ⊢
  have E0 : Hid _ := e0
  clear e0
  obtain ⟨a, b⟩ := x
  dsimp only at E0
  by_cases h1 : 0 < a
  · by_cases h2 : a ≤ 15
    · by_cases h3 : 0 < b
      · by_cases h4 : b ≤ 4611686018427387903
        · go_enter Tryz.func204, Tryz.ntmps204
          go_wp2
          go_ret
          exact ⟨ret_bool (by rw [E0.out]; simp; omega), b1 _ _⟩
        · go_enter Tryz.func204, Tryz.ntmps204
          go_wp2
          go_ret
          exact ⟨ret_bool (by rw [E0.out]; simp; omega), b1 _ _⟩
      · go_enter Tryz.func204, Tryz.ntmps204
        go_wp2
        go_ret
        exact ⟨ret_bool (by rw [E0.out]; simp; omega), b1 _ _⟩
    · go_enter Tryz.func204, Tryz.ntmps204
      go_wp2
      go_ret
      exact ⟨ret_bool (by rw [E0.out]; simp; omega), b1 _ _⟩
  · go_enter Tryz.func204, Tryz.ntmps204
    go_wp2
    go_ret
    exact ⟨ret_bool (by rw [E0.out]; simp; omega), b1 _ _⟩
theorem ret_false {r : Bool} {p : Prop} (h : r = true ↔ p) (hp : ¬ p) : Ending.returned (.bool false) = .returned (.bool r) := by
  cases r with
  | false => rfl
  | true => exact absurd (h.1 rfl) hp
theorem ret_true {r : Bool} {p : Prop} (h : r = true ↔ p) (hp : p) : Ending.returned (.bool true) = .returned (.bool r) := by rw [h.2 hp]

set_option maxHeartbeats 4000000 in
set_option maxRecDepth 100000 in
theorem refFrags167 (wd : Int) (s : Sl FragR) (w : World) (hs : SlOk eFrag w s) : Calls Tryz.prog 167 #[.int .i64 wd, .slice s.a s.xs.length s.c] w fun e w' => e = .returned (.bool (mayFragsB wd (s.xs.map FragR.d))) ∧ Below w.heap.size w w' := by
  have hr := frags_iff wd s.xs (fun f hf => (hs.ok f hf).1)
  generalize mayFragsB wd (s.xs.map FragR.d) = r at hr ⊢
  have hle := hs.le
  have hcap := hs.cap
  obtain ⟨a, c, xs⟩ := s
  dsimp only at hr hle hcap ⊢
  have HR : Hid _ := hr
  have HS : Aside _ := hs
  clear hr hs
  by_cases hl1 : xs.length < 1
  · have hz : (xs.length : Int) < 1 := by omega
    go_enter Tryz.func167, Tryz.ntmps167
    go_wp2
    go_ret
    exact ⟨ret_false HR.out (fun h => by have := h.1; omega), Below.refl _ _⟩
  by_cases hl6 : 6 < xs.length
  · have hz : ¬ (xs.length : Int) < 1 := by omega
    have hz2 : (6 : Int) < (xs.length : Int) := by omega
    go_enter Tryz.func167, Tryz.ntmps167
    go_wp2
    go_ret
    exact ⟨ret_false HR.out (fun h => by have := h.2.1; omega), Below.refl _ _⟩
  obtain ⟨b0, o0, f0, ha0, hy0, hb0, hat0, _⟩ := HS.out.get (j := 0) (show 0 < xs.length by omega)
  have d0 := (at_frag hat0).1
  dsimp only at ha0 hy0
  simp only [Nat.zero_mul, Nat.add_zero] at d0
  subst ha0
  have hz : ¬ (xs.length : Int) < 1 := by omega
  have hz2 : ¬ (6 : Int) < (xs.length : Int) := by omega
  have hz3 : (0 : Int) < (xs.length : Int) := by omega
  have HY0 : Hid _ := hy0
  clear hat0 hy0
  by_cases h1 : f0.first = 1
  case neg =>
    have hne : (f0.first != 1) = true := by simpa using h1
    go_enter Tryz.func167, Tryz.ntmps167
    go_wp2
    go_ret
    refine ⟨ret_false HR.out (fun h => ?_), Below.refl _ _⟩
    obtain ⟨f, hf, h9⟩ := h.2.2.1
    have := HY0.out.symm.trans hf
    cases this
    exact h1 h9
  have hne : (f0.first != 1) = false := by simpa using h1
  have H1 : Hid _ := h1
  clear h1
  go_enter Tryz.func167, Tryz.ntmps167
  go_wp2
  clear d0 hne
  go_loopg [5] xs.length (fun gg s5 wr => ∃ i : Nat, i ≤ xs.length ∧ xs.length - i ≤ gg ∧ s5 = .int .i64 i ∧ Aside ((∀ j, j < i → FragGood wd xs j) ∧ Below w.heap.size w wr))
  case atStart => exact ⟨0, Nat.zero_le _, by omega, rfl, fun j hj => absurd hj (Nat.not_lt_zero _), Below.refl _ _⟩
  case round =>
    obtain ⟨i, hi, hg, rfl, A⟩ := hrel
    by_cases hlt : i < xs.length
    · obtain ⟨b, off, f, ha, hy, hb, hat, hok⟩ := (HS.out.mono A.out.2).get (j := i) hlt
      obtain ⟨d0, d1⟩ := at_frag hat
      dsimp only at ha hy
      simp only [show eFrag.k = 2 from rfl] at d0 d1
      obtain ⟨rfl, rfl⟩ : b0 = b ∧ o0 = off := by cases ha; exact ⟨rfl, rfl⟩
      obtain ⟨ff, ⟨fa, fc, fx⟩⟩ := f
      have hfl := hok.2.le
      have hfc := hok.2.cap
      have HF : Aside _ := hok.2
      have HY : Hid _ := hy
      have hltz : (i : Int) < (xs.length : Int) := by omega
      have bad : ¬ FragGood wd xs i → Ending.returned (.bool false) = .returned (.bool r) := fun h => ret_false HR.out (fun hg => h (hg.2.2.2 i hlt))
      have BAD : Aside _ := bad
      clear hat hok hy ha bad
      dsimp only at hfl hfc d0 d1
      have bd : ∀ m, Below wr.heap.size wr (wr.drewN m) := fun m => ⟨rfl, rfl, rfl, Nat.le_refl _, fun _ _ => rfl⟩
      have hi0 : (0 : Int) ≤ (i : Int) := by omega
      have hfz : (0 : Int) ≤ (fx.length : Int) := by omega
      by_cases h9 : 9 < ff
      · have hd9 : decide (ff > 9) = true := decide_eq_true h9
        go_wp2_with fail
        go_quiet (fail)
        go_wp2
        go_ret
        exact ⟨BAD.out (fun h => by have := (h _ HY.out).1; dsimp only at this; omega), bthen A.out.2 (bd _)⟩
      have hd9 : decide (ff > 9) = false := decide_eq_false h9
      have hpre : i = 0 ∨ ∃ j : Nat, i = j + 1 := by cases i with
        | zero => exact .inl rfl
        | succ j => exact .inr ⟨j, rfl⟩
      rcases hpre with h0 | ⟨j, hj⟩
      · have hdB : decide ((i : Int) > 0) = false := decide_eq_false (by omega)
        have hdBn : decide (0 < i) = false := decide_eq_false (by omega)
        have HPRE : Aside (∀ (j : Nat) (g : FragR), j + 1 = i → xs[j]? = some g → g.first < ff) := fun j g h => by omega
        clear h0
        by_cases hD : (fx.length : Int) < wd
        · have hdD : decide ((fx.length : Int) < wd) = true := decide_eq_true hD
          go_wp2_with fail
          go_quiet (fail)
          go_wp2
          go_ret
          exact ⟨BAD.out (fun h => by have := (h _ HY.out).2.2.1; dsimp only at this; omega), bthen A.out.2 (bd _)⟩
        have hdD : decide ((fx.length : Int) < wd) = false := decide_eq_false hD
        have HD : Hid (wd ≤ (fx.length : Int)) := by show wd ≤ _; omega
        by_cases hE : 5 < fx.length
        · have hdE : decide ((fx.length : Int) > 5) = true := decide_eq_true (by omega)
          go_wp2_with fail
          go_quiet (fail)
          go_wp2
          go_ret
          exact ⟨BAD.out (fun h => by have := (h _ HY.out).2.2.2.1; dsimp only at this; omega), bthen A.out.2 (bd _)⟩
        have hdE : decide ((fx.length : Int) > 5) = false := decide_eq_false (by omega)
        go_wp2_with fail
        go_quiet (fail)
        go_wp2
        obtain ⟨wo, rfl⟩ : ∃ wo : World, wo = wr := ⟨_, rfl⟩
        clear d0 d1
        go_loopg [7] fx.length (fun gg s7 wk => ∃ k : Nat, k ≤ fx.length ∧ fx.length - k ≤ gg ∧ s7 = .int .i64 k ∧ Aside ((∀ j, j < k → PlaceGood fx j) ∧ Below w.heap.size w wk ∧ SlOk ePlace wk ⟨fa, fc, fx⟩))
        case atStart => exact ⟨0, Nat.zero_le _, by omega, rfl, fun j hj => absurd hj (Nat.not_lt_zero _), bthen A.out.2 (bd _), HF.out.mono (bd _)⟩
        case round =>
          obtain ⟨k, hk, hgk, rfl, B⟩ := hrel
          obtain ⟨wk, rfl⟩ : ∃ wk : World, wk = wr := ⟨_, rfl⟩
          have hk0 : (0 : Int) ≤ (k : Int) := by omega
          by_cases hkl : k < fx.length
          · obtain ⟨bb, oo, x, hax, hyx, hbx, hatx, _⟩ := B.out.2.2.get (j := k) hkl
            obtain ⟨x0, x1⟩ := at_place hatx
            dsimp only at hax hyx
            simp only [show ePlace.k = 2 from rfl] at x0 x1
            have hklz : (k : Int) < (fx.length : Int) := by omega
            have hpl := refPlace204 x wk
            have HX : Hid _ := hyx
            clear hatx hyx
            subst hax
            obtain ⟨xn, xs'⟩ := x
            dsimp only at x0 x1 hpl
            have badk : ¬ PlaceGood fx k → ¬ FragGood wd xs i := fun h hg => h ((hg _ HY.out).2.2.2.2 k hkl)
            have BADK : Aside _ := badk
            clear badk
            cases hpb : placeB ⟨xn, xs'⟩ with
            | false =>
              rw [hpb] at hpl
              have HPB : Hid _ := hpb
              clear hpb
              go_wp2_with fail
              refine hpl.mono ?_
              rintro e w2 ⟨rfl, hb2⟩
              dsimp only
              go_wp2
              go_ret
              exact ⟨BAD.out (BADK.out (fun h => by have := (h _ HX.out).1; rw [HPB.out] at this; cases this)), bthen B.out.2.1 hb2⟩
            | true =>
              rw [hpb] at hpl
              have HPB : Hid _ := hpb
              clear hpb
              go_wp2_with fail
              refine hpl.mono ?_
              rintro e w2 ⟨rfl, hb2⟩
              have HB2 : Aside _ := hb2
              clear hb2 hpl x0 x1
              dsimp only
              go_wp2_with fail
              go_loopg [8] k (fun gg s8 wj => ∃ j : Nat, j ≤ k ∧ k - j ≤ gg ∧ s8 = .int .i64 j ∧ Aside ((∀ (j' : Nat) (y : Place), j' < j → fx[j']? = some y → y.node ≠ xn) ∧ Below w.heap.size w wj ∧ SlOk ePlace wj ⟨some ⟨bb, oo, none⟩, fc, fx⟩))
              case atStart => exact ⟨0, Nat.zero_le _, by omega, rfl, fun j' y hj => absurd hj (Nat.not_lt_zero _), bthen B.out.2.1 HB2.out, B.out.2.2.mono HB2.out⟩
              case round =>
                obtain ⟨q, hq, hgq, rfl, C⟩ := hrel
                obtain ⟨wj, rfl⟩ : ∃ wj : World, wj = wr := ⟨_, rfl⟩
                have hq0 : (0 : Int) ≤ (q : Int) := by omega
                have bj : ∀ m, Below wj.heap.size wj (wj.drewN m) := fun m => ⟨rfl, rfl, rfl, Nat.le_refl _, fun _ _ => rfl⟩
                by_cases hqk : q < k
                · have hqz : decide ((q : Int) < (k : Int)) = true := decide_eq_true (by omega)
                  have hqn : decide (q < k) = true := decide_eq_true hqk
                  have hql : (q : Int) < (fx.length : Int) := by omega
                  obtain ⟨b3, o3, y, hay, hyy, _, haty, _⟩ := C.out.2.2.get (j := q) (show q < fx.length by omega)
                  obtain ⟨b4, o4, x4, hax4, hyx4, _, hatx4, _⟩ := C.out.2.2.get (j := k) hkl
                  dsimp only at hay hyy hax4 hyx4
                  have y0 := (at_place haty).1
                  have x0 := (at_place hatx4).1
                  simp only [show ePlace.k = 2 from rfl] at y0 x0
                  cases hay
                  cases hax4
                  have := HX.out.symm.trans hyx4
                  cases this
                  obtain ⟨yn, ys⟩ := y
                  dsimp only at y0 x0
                  have HYY : Hid _ := hyy
                  clear haty hatx4 hyx4 hyy
                  by_cases hyn : yn = xn
                  · subst hyn
                    have hnn : (yn == yn) = true := by simp
                    go_wp2_with fail
                    go_quiet (fail)
                    go_wp2
                    go_ret
                    exact ⟨BAD.out (BADK.out (fun h => (h _ HX.out).2 q _ hqk HYY.out rfl)), bthen C.out.2.1 (bj _)⟩
                  · have hnn : (yn == xn) = false := by simpa using hyn
                    have HYN : Hid _ := hyn
                    clear hyn
                    go_wp2_with fail
                    go_quiet (fail)
                    go_wp2
                    go_roundg (k - (q + 1))
                    case measure => omega
                    case rel =>
                      refine ⟨q + 1, by omega, by omega, by go_num, fun j' y' hj' hy' => ?_, bthen C.out.2.1 (bj _), C.out.2.2.mono (bj _)⟩
                      by_cases he : j' = q
                      · subst he
                        have := HYY.out.symm.trans hy'
                        cases this
                        exact HYN.out
                      · exact C.out.1 j' y' (by omega) hy'
                · have hqz : decide ((q : Int) < (k : Int)) = false := decide_eq_false (by omega)
                  have hqn : decide (q < k) = false := decide_eq_false hqk
                  go_wp2
                  go_roundg (fx.length - (k + 1))
                  case measure => omega
                  case rel =>
                    refine ⟨k + 1, by omega, by omega, by go_num, fun j' hj' => ?_, C.out.2.1, C.out.2.2⟩
                    by_cases he : j' = k
                    · subst he
                      intro x' hx'
                      have := HX.out.symm.trans hx'
                      cases this
                      exact ⟨HPB.out, fun j2 y2 h2 h3 => C.out.1 j2 y2 (by omega) h3⟩
                    · exact B.out.1 j' (by omega)
          · have hklz : ¬ (k : Int) < (fx.length : Int) := by omega
            go_wp2
            go_roundg (xs.length - (i + 1))
            case measure => omega
            case rel =>
              refine ⟨i + 1, by omega, by omega, by go_num, fun j' hj' => ?_, B.out.2.1⟩
              by_cases he : j' = i
              · subst he
                intro f' hf'
                have := HY.out.symm.trans hf'
                cases this
                exact ⟨by dsimp only; omega, HPRE.out, HD.out, by dsimp only; omega, fun k' hk' => B.out.1 k' (by dsimp only at hk'; omega)⟩
              · exact A.out.1 j' (by omega)
      · have hdB : decide ((i : Int) > 0) = true := decide_eq_true (by omega)
        have hdBn : decide (0 < i) = true := decide_eq_true (by omega)
        obtain ⟨b2, o2, g, ha2, hy2, _, hat2, _⟩ := (HS.out.mono A.out.2).get (j := j) (show j < xs.length by omega)
        have m0 := (at_frag hat2).1
        dsimp only at ha2 hy2
        simp only [show eFrag.k = 2 from rfl] at m0
        cases ha2
        have hwj : IntKind.i64.wrap ((i : Int) - 1) = (j : Int) := by rw [wrap_i64 (by omega) (by omega)]; omega
        have hj0 : (0 : Int) ≤ (j : Int) := by omega
        have hjl : (j : Int) < (xs.length : Int) := by omega
        have HJ : Hid (i = j + 1) := hj
        have HG : Hid _ := hy2
        clear hj hy2 hat2
        by_cases hC : ff ≤ g.first
        · have hdC : decide (ff ≤ g.first) = true := decide_eq_true hC
          go_wp2_with fail
          go_quiet (fail)
          go_wp2
          go_ret
          exact ⟨BAD.out (fun h => by have := (h _ HY.out).2.1 j g HJ.out.symm HG.out; dsimp only at this; omega), bthen A.out.2 (bd _)⟩
        have hdC : decide (ff ≤ g.first) = false := decide_eq_false hC
        have HPRE : Aside (∀ (j : Nat) (g : FragR), j + 1 = i → xs[j]? = some g → g.first < ff) := fun j' g' h h2 => by
          have h3 := HJ.out
          obtain rfl : j' = j := by omega
          have := HG.out.symm.trans h2
          cases this
          omega
        by_cases hD : (fx.length : Int) < wd
        · have hdD : decide ((fx.length : Int) < wd) = true := decide_eq_true hD
          go_wp2_with fail
          go_quiet (fail)
          go_wp2
          go_ret
          exact ⟨BAD.out (fun h => by have := (h _ HY.out).2.2.1; dsimp only at this; omega), bthen A.out.2 (bd _)⟩
        have hdD : decide ((fx.length : Int) < wd) = false := decide_eq_false hD
        have HD : Hid (wd ≤ (fx.length : Int)) := by show wd ≤ _; omega
        by_cases hE : 5 < fx.length
        · have hdE : decide ((fx.length : Int) > 5) = true := decide_eq_true (by omega)
          go_wp2_with fail
          go_quiet (fail)
          go_wp2
          go_ret
          exact ⟨BAD.out (fun h => by have := (h _ HY.out).2.2.2.1; dsimp only at this; omega), bthen A.out.2 (bd _)⟩
        have hdE : decide ((fx.length : Int) > 5) = false := decide_eq_false (by omega)
        go_wp2_with fail
        go_quiet (fail)
        go_wp2
        obtain ⟨wo, rfl⟩ : ∃ wo : World, wo = wr := ⟨_, rfl⟩
        clear d0 d1
        go_loopg [7] fx.length (fun gg s7 wk => ∃ k : Nat, k ≤ fx.length ∧ fx.length - k ≤ gg ∧ s7 = .int .i64 k ∧ Aside ((∀ j, j < k → PlaceGood fx j) ∧ Below w.heap.size w wk ∧ SlOk ePlace wk ⟨fa, fc, fx⟩))
        case atStart => exact ⟨0, Nat.zero_le _, by omega, rfl, fun j hj => absurd hj (Nat.not_lt_zero _), bthen A.out.2 (bd _), HF.out.mono (bd _)⟩
        case round =>
          obtain ⟨k, hk, hgk, rfl, B⟩ := hrel
          obtain ⟨wk, rfl⟩ : ∃ wk : World, wk = wr := ⟨_, rfl⟩
          have hk0 : (0 : Int) ≤ (k : Int) := by omega
          by_cases hkl : k < fx.length
          · obtain ⟨bb, oo, x, hax, hyx, hbx, hatx, _⟩ := B.out.2.2.get (j := k) hkl
            obtain ⟨x0, x1⟩ := at_place hatx
            dsimp only at hax hyx
            simp only [show ePlace.k = 2 from rfl] at x0 x1
            have hklz : (k : Int) < (fx.length : Int) := by omega
            have hpl := refPlace204 x wk
            have HX : Hid _ := hyx
            clear hatx hyx
            subst hax
            obtain ⟨xn, xs'⟩ := x
            dsimp only at x0 x1 hpl
            have badk : ¬ PlaceGood fx k → ¬ FragGood wd xs i := fun h hg => h ((hg _ HY.out).2.2.2.2 k hkl)
            have BADK : Aside _ := badk
            clear badk
            cases hpb : placeB ⟨xn, xs'⟩ with
            | false =>
              rw [hpb] at hpl
              have HPB : Hid _ := hpb
              clear hpb
              go_wp2_with fail
              refine hpl.mono ?_
              rintro e w2 ⟨rfl, hb2⟩
              dsimp only
              go_wp2
              go_ret
              exact ⟨BAD.out (BADK.out (fun h => by have := (h _ HX.out).1; rw [HPB.out] at this; cases this)), bthen B.out.2.1 hb2⟩
            | true =>
              rw [hpb] at hpl
              have HPB : Hid _ := hpb
              clear hpb
              go_wp2_with fail
              refine hpl.mono ?_
              rintro e w2 ⟨rfl, hb2⟩
              have HB2 : Aside _ := hb2
              clear hb2 hpl x0 x1
              dsimp only
              go_wp2_with fail
              go_loopg [8] k (fun gg s8 wj => ∃ j : Nat, j ≤ k ∧ k - j ≤ gg ∧ s8 = .int .i64 j ∧ Aside ((∀ (j' : Nat) (y : Place), j' < j → fx[j']? = some y → y.node ≠ xn) ∧ Below w.heap.size w wj ∧ SlOk ePlace wj ⟨some ⟨bb, oo, none⟩, fc, fx⟩))
              case atStart => exact ⟨0, Nat.zero_le _, by omega, rfl, fun j' y hj => absurd hj (Nat.not_lt_zero _), bthen B.out.2.1 HB2.out, B.out.2.2.mono HB2.out⟩
              case round =>
                obtain ⟨q, hq, hgq, rfl, C⟩ := hrel
                obtain ⟨wj, rfl⟩ : ∃ wj : World, wj = wr := ⟨_, rfl⟩
                have hq0 : (0 : Int) ≤ (q : Int) := by omega
                have bj : ∀ m, Below wj.heap.size wj (wj.drewN m) := fun m => ⟨rfl, rfl, rfl, Nat.le_refl _, fun _ _ => rfl⟩
                by_cases hqk : q < k
                · have hqz : decide ((q : Int) < (k : Int)) = true := decide_eq_true (by omega)
                  have hqn : decide (q < k) = true := decide_eq_true hqk
                  have hql : (q : Int) < (fx.length : Int) := by omega
                  obtain ⟨b3, o3, y, hay, hyy, _, haty, _⟩ := C.out.2.2.get (j := q) (show q < fx.length by omega)
                  obtain ⟨b4, o4, x4, hax4, hyx4, _, hatx4, _⟩ := C.out.2.2.get (j := k) hkl
                  dsimp only at hay hyy hax4 hyx4
                  have y0 := (at_place haty).1
                  have x0 := (at_place hatx4).1
                  simp only [show ePlace.k = 2 from rfl] at y0 x0
                  cases hay
                  cases hax4
                  have := HX.out.symm.trans hyx4
                  cases this
                  obtain ⟨yn, ys⟩ := y
                  dsimp only at y0 x0
                  have HYY : Hid _ := hyy
                  clear haty hatx4 hyx4 hyy
                  by_cases hyn : yn = xn
                  · subst hyn
                    have hnn : (yn == yn) = true := by simp
                    go_wp2_with fail
                    go_quiet (fail)
                    go_wp2
                    go_ret
                    exact ⟨BAD.out (BADK.out (fun h => (h _ HX.out).2 q _ hqk HYY.out rfl)), bthen C.out.2.1 (bj _)⟩
                  · have hnn : (yn == xn) = false := by simpa using hyn
                    have HYN : Hid _ := hyn
                    clear hyn
                    go_wp2_with fail
                    go_quiet (fail)
                    go_wp2
                    go_roundg (k - (q + 1))
                    case measure => omega
                    case rel =>
                      refine ⟨q + 1, by omega, by omega, by go_num, fun j' y' hj' hy' => ?_, bthen C.out.2.1 (bj _), C.out.2.2.mono (bj _)⟩
                      by_cases he : j' = q
                      · subst he
                        have := HYY.out.symm.trans hy'
                        cases this
                        exact HYN.out
                      · exact C.out.1 j' y' (by omega) hy'
                · have hqz : decide ((q : Int) < (k : Int)) = false := decide_eq_false (by omega)
                  have hqn : decide (q < k) = false := decide_eq_false hqk
                  go_wp2
                  go_roundg (fx.length - (k + 1))
                  case measure => omega
                  case rel =>
                    refine ⟨k + 1, by omega, by omega, by go_num, fun j' hj' => ?_, C.out.2.1, C.out.2.2⟩
                    by_cases he : j' = k
                    · subst he
                      intro x' hx'
                      have := HX.out.symm.trans hx'
                      cases this
                      exact ⟨HPB.out, fun j2 y2 h2 h3 => C.out.1 j2 y2 (by omega) h3⟩
                    · exact B.out.1 j' (by omega)
          · have hklz : ¬ (k : Int) < (fx.length : Int) := by omega
            go_wp2
            go_roundg (xs.length - (i + 1))
            case measure => omega
            case rel =>
              refine ⟨i + 1, by omega, by omega, by go_num, fun j' hj' => ?_, B.out.2.1⟩
              by_cases he : j' = i
              · subst he
                intro f' hf'
                have := HY.out.symm.trans hf'
                cases this
                exact ⟨by dsimp only; omega, HPRE.out, HD.out, by dsimp only; omega, fun k' hk' => B.out.1 k' (by dsimp only at hk'; omega)⟩
              · exact A.out.1 j' (by omega)
    · have hltz : ¬ (i : Int) < (xs.length : Int) := by omega
      go_wp2
      go_ret
      exact ⟨ret_true HR.out ⟨by omega, by omega, ⟨f0, HY0.out, H1.out⟩, fun j hj => A.out.1 j (by omega)⟩, A.out.2⟩
end Go.Proofs.YtdiamknibfamdaaGreat
/- The references of layer 7: MayLedger, Find, End, Open. -/
namespace Go.Proofs.YtdiamknibfamdaaGreat
open Go.RowKit Go.Shelf

def LedgerGood (l : Ledger) : Prop := 1 ≤ l.id ∧ l.id ≤ 4611686018427387903 ∧ 1 ≤ l.a ∧ l.a ≤ l.w ∧ l.w ≤ 5 ∧ mayFragsB l.w l.frags = true ∧ ((l.closed = 0 ∧ l.last = 0) ∨ (l.closed = 1 ∧ l.last ≤ 8))
theorem ledger_iff {l : Ledger} (h0 : 0 ≤ l.last) : mayLedgerB l = true ↔ LedgerGood l := by
  unfold mayLedgerB LedgerGood fromB
  simp only [Bool.and_eq_true, decide_eq_true_eq]
  constructor
  · rintro ⟨⟨⟨⟨⟨⟨h1, h2⟩, h3, h4⟩, h5⟩, h6⟩, h7, h8⟩, h9⟩
    exact ⟨h1, h2, h3, h4, h5, h6, by omega⟩
  · rintro ⟨h1, h2, h3, h4, h5, h6, h7⟩
    exact ⟨⟨⟨⟨⟨⟨h1, h2⟩, h3, h4⟩, h5⟩, h6⟩, by omega, by omega⟩, by omega⟩

set_option maxHeartbeats 2000000 in
set_option maxRecDepth 100000 in
theorem refLedger113 (l : LedgerR) (w : World) (hl : l.Ok w) : Calls Tryz.prog 113 #[l.v] w fun e w' => e = .returned (.bool (mayLedgerB l.d)) ∧ Below w.heap.size w w' := by
  have hr := ledger_iff (l := l.d) hl.2.2.2.2.2.1
  have hfr := fun W (hW : Below w.heap.size w W) => refFrags167 l.w l.frags W (hl.2.2.2.1.mono hW)
  generalize mayLedgerB l.d = r at hr ⊢
  have HR : Hid _ := hr
  have hla0 : 0 ≤ l.last := hl.2.2.2.2.2.1
  clear hr hl
  obtain ⟨id, wd, ac, ⟨fa, fc, fx⟩, cl, la⟩ := l
  dsimp only at hfr hla0 ⊢
  have e1 : (LedgerR.d ⟨id, wd, ac, ⟨fa, fc, fx⟩, cl, la⟩).frags = fx.map FragR.d := rfl
  by_cases h1 : id < 1
  · clear hfr
    go_enter Tryz.func113, Tryz.ntmps113
    go_wp2
    go_ret
    exact ⟨ret_false HR.out (fun h => by have : 1 ≤ id := h.1; omega), b1 _ _⟩
  by_cases h2 : 4611686018427387903 < id
  · clear hfr
    go_enter Tryz.func113, Tryz.ntmps113
    go_wp2
    go_ret
    exact ⟨ret_false HR.out (fun h => by have : id ≤ 4611686018427387903 := h.2.1; omega), b1 _ _⟩
  by_cases h3 : ac < 1
  · clear hfr
    go_enter Tryz.func113, Tryz.ntmps113
    go_wp2
    go_ret
    exact ⟨ret_false HR.out (fun h => by have : 1 ≤ ac := h.2.2.1; omega), b1 _ _⟩
  by_cases h4 : wd < ac
  · clear hfr
    go_enter Tryz.func113, Tryz.ntmps113
    go_wp2
    go_ret
    exact ⟨ret_false HR.out (fun h => by have : ac ≤ wd := h.2.2.2.1; omega), b1 _ _⟩
  by_cases h5 : 5 < wd
  · clear hfr
    go_enter Tryz.func113, Tryz.ntmps113
    go_wp2
    go_ret
    exact ⟨ret_false HR.out (fun h => by have : wd ≤ 5 := h.2.2.2.2.1; omega), b1 _ _⟩
  cases hm : mayFragsB wd (fx.map FragR.d) with
  | false =>
    have HM : Hid _ := hm
    rw [hm] at hfr
    clear hm
    go_enter Tryz.func113, Tryz.ntmps113
    go_wp2_with fail
    refine (hfr _ (b1 _ _)).mono ?_
    rintro e w1 ⟨rfl, hb1⟩
    dsimp only
    go_wp2
    go_ret
    exact ⟨ret_false HR.out (fun h => by have h9 : mayFragsB wd (fx.map FragR.d) = true := h.2.2.2.2.2.1; rw [HM.out] at h9; cases h9), bthen (b1 _ _) hb1⟩
  | true =>
    have HM : Hid _ := hm
    rw [hm] at hfr
    clear hm
    have good : ((cl = 0 ∧ la = 0) ∨ (cl = 1 ∧ la ≤ 8)) → Ending.returned (.bool true) = .returned (.bool r) := fun h => ret_true HR.out ⟨by show 1 ≤ id; omega, by show id ≤ _; omega, by show 1 ≤ ac; omega, by show ac ≤ wd; omega, by show wd ≤ 5; omega, HM.out, h⟩
    have bad : ¬ ((cl = 0 ∧ la = 0) ∨ (cl = 1 ∧ la ≤ 8)) → Ending.returned (.bool false) = .returned (.bool r) := fun h => ret_false HR.out (fun hg => h hg.2.2.2.2.2.2)
    by_cases h6 : cl = 0
    · by_cases h7 : la = 0
      · have hres := good (.inl ⟨h6, h7⟩)
        subst h6 h7
        have HRES : Aside _ := hres
        clear hres good bad
        go_enter Tryz.func113, Tryz.ntmps113
        go_wp2_with fail
        refine (hfr _ (b1 _ _)).mono ?_
        rintro e w1 ⟨rfl, hb1⟩
        obtain ⟨d0, d1, d2, d3, d4, d5, f0, f1, f2, f3, f4, f5⟩ := cells6 (box_mono (heap_top w _ _ rfl) hb1)
        dsimp only
        go_wp2
        go_ret
        exact ⟨HRES.out, bthen (b1 _ _) hb1⟩
      · have hres := bad (fun h => by omega)
        have h8 : (la == 0) = false := by simpa using h7
        subst h6
        clear h7
        have HRES : Aside _ := hres
        clear hres good bad
        go_enter Tryz.func113, Tryz.ntmps113
        go_wp2_with fail
        refine (hfr _ (b1 _ _)).mono ?_
        rintro e w1 ⟨rfl, hb1⟩
        obtain ⟨d0, d1, d2, d3, d4, d5, f0, f1, f2, f3, f4, f5⟩ := cells6 (box_mono (heap_top w _ _ rfl) hb1)
        dsimp only
        go_wp2
        go_ret
        exact ⟨HRES.out, bthen (b1 _ _) hb1⟩
    · have h8 : (cl == 0) = false := by simpa using h6
      by_cases h7 : cl = 1
      · by_cases h9 : la ≤ 8
        · have hres := good (.inr ⟨h7, h9⟩)
          have hd : decide (la ≤ 8) = true := decide_eq_true h9
          subst h7
          clear h6
          have HRES : Aside _ := hres
          clear hres good bad
          go_enter Tryz.func113, Tryz.ntmps113
          go_wp2_with fail
          refine (hfr _ (b1 _ _)).mono ?_
          rintro e w1 ⟨rfl, hb1⟩
          obtain ⟨d0, d1, d2, d3, d4, d5, f0, f1, f2, f3, f4, f5⟩ := cells6 (box_mono (heap_top w _ _ rfl) hb1)
          dsimp only
          go_wp2
          go_ret
          exact ⟨HRES.out, bthen (b1 _ _) hb1⟩
        · have hres := bad (fun h => by omega)
          have hd : decide (la ≤ 8) = false := decide_eq_false h9
          subst h7
          clear h6
          have HRES : Aside _ := hres
          clear hres good bad
          go_enter Tryz.func113, Tryz.ntmps113
          go_wp2_with fail
          refine (hfr _ (b1 _ _)).mono ?_
          rintro e w1 ⟨rfl, hb1⟩
          obtain ⟨d0, d1, d2, d3, d4, d5, f0, f1, f2, f3, f4, f5⟩ := cells6 (box_mono (heap_top w _ _ rfl) hb1)
          dsimp only
          go_wp2
          go_ret
          exact ⟨HRES.out, bthen (b1 _ _) hb1⟩
      · have hres := bad (fun h => by omega)
        have h9 : (cl == 1) = false := by simpa using h7
        clear h6 h7
        have HRES : Aside _ := hres
        clear hres good bad
        go_enter Tryz.func113, Tryz.ntmps113
        go_wp2_with fail
        refine (hfr _ (b1 _ _)).mono ?_
        rintro e w1 ⟨rfl, hb1⟩
        obtain ⟨d0, d1, d2, d3, d4, d5, f0, f1, f2, f3, f4, f5⟩ := cells6 (box_mono (heap_top w _ _ rfl) hb1)
        dsimp only
        go_wp2
        go_ret
        exact ⟨HRES.out, bthen (b1 _ _) hb1⟩

/-- The place of a ledger of an Id; -1: there is none. -/
def idxL (ls : List Ledger) (id : Int) : Int := match ls.findIdx? (fun l => decide (l.id = id)) with | some k => k | none => -1
theorem idxL_none {ls : List Ledger} {id : Int} (h : ∀ l ∈ ls, l.id ≠ id) : idxL ls id = -1 := by
  unfold idxL
  rw [List.findIdx?_eq_none_iff.2 (fun x hx => by simpa using h x hx)]
theorem idxL_some {ls : List Ledger} {id : Int} {k : Nat} {l : Ledger} (hk : ls[k]? = some l) (hl : l.id = id) (h : ∀ (j : Nat) (m : Ledger), j < k → ls[j]? = some m → m.id ≠ id) : idxL ls id = k ∧ findL ls id = some l := by
  obtain ⟨hlt, he⟩ := List.getElem?_eq_some_iff.1 hk
  constructor
  · unfold idxL
    have : ls.findIdx? (fun l => decide (l.id = id)) = some k := by
      rw [List.findIdx?_eq_some_iff_getElem]
      refine ⟨hlt, by rw [he]; simpa using hl, fun j hj => ?_⟩
      have := h j ls[j] hj (List.getElem?_eq_getElem _)
      simpa using this
    rw [this]
  · unfold findL
    rw [List.find?_eq_some_iff_getElem]
    refine ⟨by simpa using hl, k, hlt, he, fun j hj => ?_⟩
    have := h j ls[j] hj (List.getElem?_eq_getElem _)
    simpa using this
theorem findL_none_of {ls : List Ledger} {id : Int} (h : ∀ l ∈ ls, l.id ≠ id) : findL ls id = none := by
  unfold findL
  rw [List.find?_eq_none]
  intro x hx
  simpa using h x hx
/-- Found, or not. -/
theorem idxL_cases (ls : List Ledger) (id : Int) : (idxL ls id = -1 ∧ findL ls id = none) ∨ ∃ (k : Nat) (l : Ledger), ls[k]? = some l ∧ idxL ls id = k ∧ findL ls id = some l := by
  cases hf : ls.findIdx? (fun l => decide (l.id = id)) with
  | none =>
    have h := List.findIdx?_eq_none_iff.1 hf
    have h2 : ∀ l ∈ ls, l.id ≠ id := fun l hl => by simpa using h l hl
    exact .inl ⟨idxL_none h2, findL_none_of h2⟩
  | some k =>
    obtain ⟨hlt, h1, h2⟩ := List.findIdx?_eq_some_iff_getElem.1 hf
    obtain ⟨h3, h4⟩ := idxL_some (k := k) (l := ls[k]) (id := id) (List.getElem?_eq_getElem hlt) (by simpa using h1) (fun j m hj hm => by
      obtain ⟨hj', rfl⟩ := List.getElem?_eq_some_iff.1 hm
      simpa using h2 j hj)
    exact .inr ⟨k, _, List.getElem?_eq_getElem hlt, h3, h4⟩

set_option maxHeartbeats 1000000 in
theorem refFind68 (p : PlanR) (id : Int) (w : World) (hp : p.Ok w) : Calls Tryz.prog 68 #[p.v, .int .u64 id] w fun e w' => e = .returned (.int .i64 (idxL p.d.ledgers id)) ∧ Below w.heap.size w w' := by
  have hs := hp.ledgers
  have hle := hs.le
  have hcap := hs.cap
  have e0 : p.d.ledgers = p.ledgers.xs.map LedgerR.d := rfl
  rw [e0]
  clear hp e0
  obtain ⟨pv, pn, ⟨ca, cc, cs⟩, ⟨la, lc, ls⟩, ⟨pa, pc, ps⟩⟩ := p
  dsimp only at hs hle hcap ⊢
  have HN : Aside (∀ r, (∀ l ∈ ls.map LedgerR.d, l.id ≠ id) → r = -1 → Ending.returned (.int .i64 r) = .returned (.int .i64 (idxL (ls.map LedgerR.d) id))) := fun r h hr => by rw [idxL_none h, hr]
  have HS : Aside (∀ (k : Nat) (l : LedgerR), ls[k]? = some l → l.id = id → (∀ (j : Nat) (m : LedgerR), j < k → ls[j]? = some m → m.id ≠ id) → Ending.returned (.int .i64 (k : Int)) = .returned (.int .i64 (idxL (ls.map LedgerR.d) id))) := fun k l hk hl h => by
    rw [(idxL_some (k := k) (l := l.d) (by rw [List.getElem?_map, hk]; rfl) hl (fun j m hj hm => by
      rw [List.getElem?_map] at hm
      obtain ⟨m', hm', rfl⟩ := Option.map_eq_some_iff.1 hm
      exact h j m' hj hm')).1]
  generalize idxL (ls.map LedgerR.d) id = r at HN HS ⊢
  have HSL : Aside _ := hs
  clear hs
  go_enter Tryz.func68, Tryz.ntmps68
  go_wp2
  go_loop [5] (fun i => ∃ k : Nat, k ≤ ls.length ∧ i = .int .i64 k ∧ Aside (∀ (j : Nat) (m : LedgerR), j < k → ls[j]? = some m → m.id ≠ id)) (fun i => ls.length - (intOf i).toNat)
  case atStart => exact ⟨0, Nat.zero_le _, rfl, fun j m hj => absurd hj (Nat.not_lt_zero _)⟩
  case round =>
    obtain ⟨k, hk, rfl, A⟩ := hrel
    by_cases hlt : k < ls.length
    · obtain ⟨b, off, y, ha, hy, hb, hat, _⟩ := (HSL.out.mono (b1 w (.cells #[.int .u64 pv, .int .u64 pn, .slice ca cs.length cc, .slice la ls.length lc, .slice pa ps.length pc] 27 (0, 0)))).get (j := k) hlt
      have d0 := (at_ledger hat).1
      dsimp only at ha hy
      simp only [show eLedger.k = 6 from rfl] at d0
      subst ha
      have hb' : b ≠ w.heap.size → b < w.heap.size := fun h => by simp at hb; omega
      have hltz : (k : Int) < (ls.length : Int) := by omega
      have HY : Hid _ := hy
      clear hy hat
      by_cases hid : y.id = id
      · have hq : (y.id == id) = true := by simpa using hid
        have HI : Hid _ := hid
        clear hid
        go_wp2
        go_ret
        exact ⟨HS.out k y HY.out HI.out A.out, b1 _ _⟩
      · have hq : (y.id == id) = false := by simpa using hid
        have HI : Hid _ := hid
        clear hid
        go_wp2
        go_round
        case rel =>
          refine ⟨k + 1, by omega, by go_num, fun j m hj hm => ?_⟩
          by_cases he : j = k
          · subst he
            have := HY.out.symm.trans hm
            cases this
            exact HI.out
          · exact A.out j m (by omega) hm
        case measure => simp [intOf]; omega
    · have hltz : ¬ (k : Int) < (ls.length : Int) := by omega
      go_wp2
      go_ret
      refine ⟨HN.out _ (fun l hl => ?_) rfl, b1 _ _⟩
      obtain ⟨m, hm, rfl⟩ := List.mem_map.1 hl
      obtain ⟨j, hj⟩ := mem_get.1 hm
      exact A.out j m (by have := (List.getElem?_eq_some_iff.1 hj).1; omega) hj
end Go.Proofs.YtdiamknibfamdaaGreat
