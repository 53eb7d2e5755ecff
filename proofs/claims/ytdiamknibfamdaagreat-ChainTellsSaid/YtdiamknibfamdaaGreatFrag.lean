/- Whether places, fragments, ledgers may be. -/
import Derived.Test.YtdiamknibfamdaaGreatSortF
import Derived.Test.YtdiamknibfamdaaGreatOwn
namespace Go.Proofs.YtdiamknibfamdaaGreat
open Go.RowKit Go.Shelf

theorem rise_sorted : ∀ (l : List Int), l.Pairwise (fun x y => x ≤ y) → riseB l = decide l.Nodup
  | [], _ => by simp [riseB]
  | [a], _ => by simp [riseB]
  | a :: b :: t, h => by
    have ih := rise_sorted (b :: t) (List.pairwise_cons.1 h).2
    have h1 := (List.pairwise_cons.1 h).1
    have h2 := (List.pairwise_cons.1 (List.pairwise_cons.1 h).2).1
    simp only [riseB, ih]
    by_cases hab : a < b
    · have : a ∉ b :: t := by
        intro hm
        rcases List.mem_cons.1 hm with rfl | hm
        · omega
        · have := h2 a hm; omega
      simp [hab, this]
    · have : a = b := by have := h1 b (by simp); omega
      subst this
      simp
theorem rise_distinct {α : Type} (key : α → Int) (xs ys : List α) (hp : ys.Perm xs) (hs : ys.Pairwise fun x y => key x ≤ key y) : riseB (ys.map key) = distinctB (xs.map key) := by
  rw [rise_sorted _ (List.pairwise_map.2 hs)]
  unfold distinctB
  exact decide_eq_decide.2 (hp.map key).nodup_iff

theorem enters197 : ∀ args w, (callFunc 197 args).run Tryz.prog w = .ok (.enter 197 args) w := enters_of Tryz.func197 (by kernel_rfl) rfl

set_option maxHeartbeats 2000000 in
set_option maxRecDepth 100000 in
theorem frag153 (wd : Int) (f : FragR) (w : World) (hf : eFrag.ok w f) (hb : f.bookies.xs.length ≤ 1000000) : Calls Tryz.prog 153 #[.int .i64 wd, f.v] w fun e w' => e = .returned (.bool (fragB wd f.d)) ∧ Below w.heap.size w w' := by
  obtain ⟨fi, s⟩ := f
  have hs := hf.2
  have hcl := fun W (hW : Below w.heap.size w W) => clone85 s W (hs.mono hW) (by dsimp only at hb; omega)
  have hal := fun W (hW : Below w.heap.size w W) => all196 s placeB 197 #[] enters197 W (hs.mono hW) (fun W' x _ _ => place197 x W')
  have hok : ∀ x ∈ s.xs, ePlace.ok w x := hs.ok
  have HOK : Hid _ := hok
  have e0 : fragB wd (FragR.d ⟨fi, s⟩) = (fromB fi 1 9 && fromB s.xs.length wd 5 && s.xs.all placeB && distinctB (s.xs.map (·.node))) := rfl
  generalize fragB wd (FragR.d ⟨fi, s⟩) = r at e0 ⊢
  have E0 : Hid _ := e0
  have hsz : s.xs.length < 4611686018427387904 := by dsimp only at hb; omega
  clear e0 hf hs hok
  go_enter Tryz.func153, Tryz.ntmps153
  go_wp2_with (go_at_call 85; refine (hcl _ (b1 _ _)).mono ?_; rintro e w1 ⟨a', c', rfl, hs', ho', hb'⟩; have HO : Aside _ := ho'; have HB : Aside _ := hb'; clear hs' ho' hb')
  refine (sortFunc194 a' c' s.xs _ _ HO.out hsz).mono ?_
  rintro e w2 ⟨rfl, ys, hp, hpw, ho2, hln, hg2⟩
  have hn1 : w.heap.size < w1.heap.size := by have := HB.out.size; simp at this; omega
  have hge : ∀ k, Value.ownBlock (.slice a' s.xs.length c') = some k → w.heap.size + 1 ≤ k := fun k hk => by have := (own_lt HO.out hk).1; simpa using this
  have HB2 : Aside (Below w.heap.size w w2) := (bthen (b1 w _) HB.out).grown hg2 (by omega) (fun k hk => by have := hge k hk; omega)
  have hblk := (hg2.block w.heap.size hn1 (fun h => by have := hge _ h.symm; omega)).trans ((HB.out.block w.heap.size (by simp)).trans (heap_top w _ _ rfl))
  obtain ⟨c0, c1, f0, f1⟩ := cells2 hblk
  obtain ⟨a2, c2, hv2, hys⟩ := own_ok (E := ePlace) ho2 (fun x hx => HOK.out x (hp.mem_iff.1 hx))
  cases hv2
  have hri := rise198 ⟨a', c', ys⟩ (fun x => x.node) 199 #[] enters199
  have hri2 := fun W (hW : Below w2.heap.size w2 W) => hri W (hys.mono hW) (fun W' x _ _ => key199 x W')
  rw [rise_distinct (fun x : Place => x.node) s.xs ys hp hpw] at hri2
  dsimp only at hri2
  have hal2 := fun W (hW : Below w2.heap.size w2 W) => hal W (HB2.out.trans (hW.mono HB2.out.size))
  rw [hln] at hri2
  have HP : Aside _ := hp
  have hsz2 : w.heap.size < w2.heap.size := Nat.lt_of_lt_of_le hn1 hg2.size
  clear hp hpw ho2 hg2 hln hys hri hal hblk hge HO HB hcl
  generalize s.xs.all placeB = p1 at hal2 E0
  generalize distinctB (s.xs.map fun x => x.node) = p2 at hri2 E0
  go_wp2_with (first | (go_at_call 49; refine (from49 _ _ _ _).mono ?_; rintro e w' ⟨rfl, rfl⟩) | (go_at_call 50; refine (from50 _ _ _ _).mono ?_; rintro e w' ⟨rfl, rfl⟩) | (go_at_call 196; refine (hal2 _ (Below.refl _ _)).mono ?_; rintro e w3 ⟨rfl, hb3⟩) | (go_at_call 198; refine (hri2 _ hb3).mono ?_; rintro e w4 ⟨rfl, hb4⟩))
  all_goals (go_ret; refine ⟨ret_bool (by rw [E0.out]; simp_all), ?_⟩; first | exact bthen (bthen HB2.out hb3) hb4 | exact bthen HB2.out hb3 | exact HB2.out)

/-- What is asked of sizes: no fragment has a row beyond all bounds. -/
def FragSmall (x : FragR) : Prop := x.bookies.xs.length ≤ 1000000

theorem mayFragsClosure152 (wd : Int) (B : Nat) (f : FragR) (W : World) (hB : B < W.heap.size) (hcell : W.cell? ⟨B, 0, none⟩ = some (.int .i64 wd)) (hf : eFrag.ok W f) (hb : FragSmall f) :
    Calls Tryz.prog 152 #[f.v, .pointer (some ⟨B, 0, none⟩)] W fun e w' => e = .returned (.bool (fragB wd f.d)) ∧ Below W.heap.size W w' := by
  have hcl := fun W' (hW : Below W.heap.size W W') => frag153 wd f W' (eFrag.mono hf hW) hb
  generalize fragB wd f.d = r at hcl ⊢
  clear hf hb
  go_enter Tryz.func152, Tryz.ntmps152
  go_wp2_with (go_at_call 153; refine (hcl _ (b1 _ _)).mono ?_; rintro e w' ⟨rfl, hb'⟩)
  go_ret
  exact ⟨rfl, bthen (b1 _ _) hb'⟩
theorem enters152 : ∀ args w, (callFunc 152 args).run Tryz.prog w = .ok (.enter 152 args) w := enters_of Tryz.func152 (by kernel_rfl) rfl

end Go.Proofs.YtdiamknibfamdaaGreat
