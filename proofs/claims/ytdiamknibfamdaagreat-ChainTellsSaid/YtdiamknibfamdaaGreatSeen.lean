/- Whether a channel's marks, cursors may be. -/
import Derived.Test.YtdiamknibfamdaaGreatFrag
import Derived.Test.YtdiamknibfamdaaGreatPln
namespace Go.Proofs.YtdiamknibfamdaaGreat
open Go.RowKit Go.Shelf

theorem enters163 : ∀ args w, (callFunc 163 args).run Tryz.prog w = .ok (.enter 163 args) w := enters_of Tryz.func163 (by kernel_rfl) rfl
theorem enters108 : ∀ args w, (callFunc 108 args).run Tryz.prog w = .ok (.enter 108 args) w := enters_of Tryz.func108 (by kernel_rfl) rfl

theorem seenClosure163 (x : Mark) (B : Nat) (first : Int) (W : World) (hB : B < W.heap.size) (hcell : W.cell? ⟨B, 4, none⟩ = some (.int .u64 first)) :
    Calls Tryz.prog 163 #[x.v, .pointer (some ⟨B, 0, none⟩)] W fun e w' => e = .returned (.bool (markB first x)) ∧ Below W.heap.size W w' := by
  have hne : B ≠ W.heap.size := by omega
  go_enter Tryz.func163, Tryz.ntmps163
  go_wp2_with (first | (go_at_call 50; refine (from50 _ _ _ _).mono ?_; rintro e w' ⟨rfl, rfl⟩) | (go_at_call 49; refine (from49 _ _ _ _).mono ?_; rintro e w' ⟨rfl, rfl⟩))
  all_goals (go_ret; exact ⟨by simp [markB, *], b1 _ _⟩)

theorem cursorClosure108 (x : Cursor) (W : World) (hx : eCursor.ok W x) : Calls Tryz.prog 108 #[x.v] W fun e w' => e = .returned (.bool (cursorB x)) ∧ Below W.heap.size W w' := by
  have hu : ∀ y ∈ [x.at_], U64 y := by
    intro y hy
    simp at hy
    subst hy
    exact hx.2
  have hc : ∀ w B, w.heap[B]? = some (.cells #[.int .u64 x.at_] 22 (0, 0)) → Calls Tryz.prog 48 #[.slice (some ⟨B, 0, none⟩) 1 1] w fun e w' => e = .returned (.bool (countsB [x.at_])) ∧ Below w.heap.size w w' :=
    fun w B hB => counts48 ⟨some ⟨B, 0, none⟩, 1, [x.at_]⟩ w (lit_ok _ w B 22 (0, 0) (by simpa using hB) hu (by simp))
  have e0 : cursorB x = (fromB x.sub 1 3 && countsB [x.at_]) := rfl
  generalize cursorB x = r at e0 ⊢
  have E0 : Hid _ := e0
  clear e0 hx hu
  go_enter Tryz.func108, Tryz.ntmps108
  go_wp2_with (first | (go_at_call 50; refine (from50 _ _ _ _).mono ?_; rintro e w' ⟨rfl, rfl⟩) | (go_at_call 48; refine (hc _ _ (heap_top _ _ _ (by simp))).mono ?_; rintro e w' ⟨rfl, hb'⟩))
  all_goals (go_ret; refine ⟨ret_bool (by rw [E0.out]; simp_all), ?_⟩; first | exact bthen (balloc (b1 _ _) _) hb' | exact b1 _ _)

set_option maxHeartbeats 2000000 in
set_option maxRecDepth 100000 in
theorem seen104 (c : ChannelR) (w : World) (hf : c.Ok w) (hb : c.seen.xs.length ≤ 1000000) : Calls Tryz.prog 104 #[c.v] w fun e w' => e = .returned (.bool (seenB c.d)) ∧ Below w.heap.size w w' := by
  obtain ⟨ep, ow, ic, re, fi, tr, ⟨ia, icp, is⟩, s, ⟨ua, uc, us⟩⟩ := c
  have hs : SlOk eMark w s := hf.seen
  have hcl := fun W (hW : Below w.heap.size w W) => clone86 s W (hs.mono hW) (by dsimp only at hb; omega)
  have hal := fun W (hW : Below w.heap.size w W) (hc : W.cell? ⟨w.heap.size, 4, none⟩ = some (.int .u64 fi)) (hlt : w.heap.size < W.heap.size) => all162 s (markB fi) 163 #[.pointer (some ⟨w.heap.size, 0, none⟩)] enters163 W (hs.mono hW) (fun W' x _ hb' => seenClosure163 x w.heap.size fi W' (blt hb' hlt) ((hb'.cell (p := ⟨w.heap.size, 4, none⟩) hlt).trans hc))
  have hr0 := fun W (hW : Below w.heap.size w W) => rise158 s (fun x => x.producer) 159 #[] enters159 W (hs.mono hW) (fun W' x _ _ => key159 x W')
  have hok : ∀ x ∈ s.xs, eMark.ok w x := hs.ok
  have HOK : Hid _ := hok
  have e0 : seenB (ChannelR.d ⟨ep, ow, ic, re, fi, tr, ⟨ia, icp, is⟩, s, ⟨ua, uc, us⟩⟩) = (decide (s.xs.length ≤ 6) && riseB (s.xs.map (·.producer)) && distinctB (s.xs.map (·.offset)) && s.xs.all (markB fi)) := rfl
  generalize seenB (ChannelR.d ⟨ep, ow, ic, re, fi, tr, ⟨ia, icp, is⟩, s, ⟨ua, uc, us⟩⟩) = r at e0 ⊢
  have E0 : Hid _ := e0
  have hsz : s.xs.length < 4611686018427387904 := by dsimp only at hb; omega
  clear e0 hf hs hok
  go_enter Tryz.func104, Tryz.ntmps104
  go_wp2_with (go_at_call 86; refine (hcl _ (b1 _ _)).mono ?_; rintro e w1 ⟨a', c', rfl, hs', ho', hb'⟩; have HO : Aside _ := ho'; have HB : Aside _ := hb'; clear hs' ho' hb')
  refine (sortFunc156 a' c' s.xs _ _ HO.out hsz).mono ?_
  rintro e w2 ⟨rfl, ys, hp, hpw, ho2, hln, hg2⟩
  have hn1 : w.heap.size < w1.heap.size := by have := HB.out.size; simp at this; omega
  have hge : ∀ k, Value.ownBlock (.slice a' s.xs.length c') = some k → w.heap.size + 1 ≤ k := fun k hk => by have := (own_lt HO.out hk).1; simpa using this
  have HB2 : Aside (Below w.heap.size w w2) := (bthen (b1 w _) HB.out).grown hg2 (by omega) (fun k hk => by have := hge k hk; omega)
  have hblk := (hg2.block w.heap.size hn1 (fun h => by have := hge _ h.symm; omega)).trans ((HB.out.block w.heap.size (by simp)).trans (heap_top w _ _ rfl))
  have HBL : Aside _ := hblk
  obtain ⟨c0, c1, c2, c3, c4, c5, c6, c7, c8, f0, f1, f2, f3, f4, f5, f6, f7, f8⟩ := cells9 hblk
  obtain ⟨a2, c2', hv2, hys⟩ := own_ok (E := eMark) ho2 (fun x hx => HOK.out x (hp.mem_iff.1 hx))
  cases hv2
  have hri := rise160 ⟨a', c', ys⟩ (fun x => x.offset) 161 #[] enters161
  have hri2 := fun W (hW : Below w2.heap.size w2 W) => hri W (hys.mono hW) (fun W' x _ _ => key161 x W')
  rw [rise_distinct (fun x : Mark => x.offset) s.xs ys hp hpw] at hri2
  dsimp only at hri2
  have hsz2 : w.heap.size < w2.heap.size := Nat.lt_of_lt_of_le hn1 hg2.size
  have hal2 := fun W (hW : Below w2.heap.size w2 W) => hal W (HB2.out.trans (hW.mono HB2.out.size)) ((hW.cell (p := ⟨w.heap.size, 4, none⟩) hsz2).trans c4) (blt hW hsz2)
  have hr2 := fun W (hW : Below w2.heap.size w2 W) => hr0 W (HB2.out.trans (hW.mono HB2.out.size))
  have hbox := fun W (hW : Below w2.heap.size w2 W) => box_mono hblk hW
  rw [hln] at hri2
  have HP : Aside _ := hp
  clear hp hpw ho2 hg2 hln hys hri hal hblk hge HO HB hcl hr0
  generalize s.xs.all (markB fi) = p1 at hal2 E0
  generalize distinctB (s.xs.map fun x => x.offset) = p2 at hri2 E0
  generalize riseB (s.xs.map fun x => x.producer) = p3 at hr2 E0
  clear hbox
  go_wp2_with (first | (go_at_call 158; refine (hr2 _ (Below.refl _ _)).mono ?_; rintro e w3 ⟨rfl, hb3⟩; have x3 := (hb3.cell (p := ⟨w.heap.size, 7, none⟩) hsz2).trans c7) | (go_at_call 160; refine (hri2 _ hb3).mono ?_; rintro e w4 ⟨rfl, hb4⟩; have x4 := ((bthen hb3 hb4).cell (p := ⟨w.heap.size, 7, none⟩) hsz2).trans c7) | (go_at_call 162; refine (hal2 _ (bthen hb3 hb4)).mono ?_; rintro e w5 ⟨rfl, hb5⟩))
  all_goals (go_ret; refine ⟨ret_bool (by rw [E0.out]; first | (simp_all; done) | (simp_all; omega)), ?_⟩; first | exact bthen (bthen (bthen HB2.out hb3) hb4) hb5 | exact bthen (bthen HB2.out hb3) hb4 | exact bthen HB2.out hb3 | exact HB2.out)
end Go.Proofs.YtdiamknibfamdaaGreat
