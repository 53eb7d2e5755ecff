/- The chain's plain laws: each spot's offset, and by what a spot is known. -/
import Derived.Test.YtdiamknibfamdaaGreatFnd
namespace Go.Proofs.YtdiamknibfamdaaGreat

/-- The spots of ledgers from an offset on. -/
def spotsL (ls : List Ledger) (sure e : Int) (ids : List Int) : List Spot := (seqL ls e ids).flatMap (spotsAt sure)
/-- Ledgers that may stand in a plan. -/
def LedsOk (ls : List Ledger) : Prop := ∀ l ∈ ls, (l.closed = 0 ∨ l.closed = 1) ∧ 0 ≤ l.last ∧ l.last ≤ 8 * l.closed

theorem findL_id {ls : List Ledger} {id : Int} {l : Ledger} (h : findL ls id = some l) : l ∈ ls ∧ l.id = id :=
  ⟨List.mem_of_find?_eq_some h, by have := List.find?_some h; simpa using this⟩
theorem ids_head {ls : List Ledger} {id : Int} {t : List Int} (h : idsOkB ls (id :: t) = true) : ∃ l, findL ls id = some l ∧ (t = [] ∨ l.closed ≠ 0) ∧ idsOkB ls t = true := by
  unfold idsOkB at h
  rw [Bool.and_eq_true] at h
  obtain ⟨h1, h2⟩ := h
  cases hf : findL ls id with
  | none => rw [hf] at h1; cases h1
  | some l =>
    rw [hf] at h1
    refine ⟨l, rfl, ?_, h2⟩
    cases t with
    | nil => exact .inl rfl
    | cons a t => exact .inr fun h0 => by simp [h0] at h1
theorem spotsL_cons {ls : List Ledger} (sure e : Int) {id : Int} (t : List Int) {l : Ledger} (hf : findL ls id = some l) : spotsL ls sure e (id :: t) = spotsAt sure (e, l) ++ spotsL ls sure (addU e l.last) t := by
  unfold spotsL
  rw [seqL, List.flatMap_cons, lastOf, hf]
  rfl
theorem spotsAt_len (sure e : Int) (l : Ledger) : (spotsAt sure (e, l)).length = (cntOf sure l.closed l.last).toNat := by simp [spotsAt]
theorem spotsAt_get {sure e : Int} {l : Ledger} {i : Nat} {s : Spot} (h : (spotsAt sure (e, l))[i]? = some s) : i < (cntOf sure l.closed l.last).toNat ∧ s = ⟨addU e i, l.id, addU i 1⟩ := by
  have hi := (List.getElem?_eq_some_iff.1 h).1
  rw [spotsAt_len] at hi
  refine ⟨hi, ?_⟩
  simp only [spotsAt] at h
  rw [List.getElem?_map, List.getElem?_range hi] at h
  simpa using h.symm
theorem addU_small {a b : Int} (h0 : 0 ≤ a + b) (h1 : a + b < 18446744073709551616) : addU a b = a + b := Int.emod_eq_of_lt h0 h1
theorem cnt_le {ls : List Ledger} (hl : LedsOk ls) {l : Ledger} (h : l ∈ ls) (sure : Int) : cntOf sure l.closed l.last ≤ 8 := by
  obtain ⟨h1, h2, h3⟩ := hl l h
  unfold cntOf
  split <;> omega
theorem cnt_closed {l : Ledger} (sure : Int) (h : l.closed ≠ 0) : cntOf sure l.closed l.last = l.last := if_neg h
/-- An element of two rows, one behind the other. -/
theorem get_append {α : Type} {a b : List α} {i : Nat} {s : α} (h : (a ++ b)[i]? = some s) : a[i]? = some s ∨ ∃ k, i = a.length + k ∧ b[k]? = some s := by
  rw [List.getElem?_append] at h
  split at h
  · exact .inl h
  · exact .inr ⟨i - a.length, by omega, h⟩

theorem spotsL_at {ls : List Ledger} {sure : Int} (hl : LedsOk ls) : ∀ (ids : List Int) (e : Int), 0 ≤ e → e + 8 * ids.length < 18446744073709551616 → idsOkB ls ids = true →
    ∀ (i : Nat) (s : Spot), (spotsL ls sure e ids)[i]? = some s → s.offset = e + i ∧ s.ledger ∈ ids
  | [], _, _, _, _, _, _, h => by simp [spotsL, seqL] at h
  | id :: t, e, h0, h1, hk, i, s, h => by
    obtain ⟨l, hf, hc, hk'⟩ := ids_head hk
    obtain ⟨hm, hid⟩ := findL_id hf
    obtain ⟨hcl, hla, hlb⟩ := hl l hm
    have hle := cnt_le hl hm sure
    rw [spotsL_cons sure e t hf] at h
    simp only [List.length_cons] at h1
    rcases get_append h with h2 | ⟨k, rfl, h2⟩
    · obtain ⟨h3, rfl⟩ := spotsAt_get h2
      exact ⟨addU_small (by omega) (by omega), by rw [hid]; exact List.mem_cons_self⟩
    · rcases hc with rfl | hc
      · simp [spotsL, seqL] at h2
      · have hcn := cnt_closed sure hc
        have ha : addU e l.last = e + l.last := addU_small (by omega) (by omega)
        rw [ha] at h2
        obtain ⟨h3, h4⟩ := spotsL_at hl t (e + l.last) (by omega) (by omega) hk' k s h2
        refine ⟨?_, List.mem_cons_of_mem _ h4⟩
        rw [h3, spotsAt_len, hcn]
        omega
/-- A ledger's spots have unlike numbers, from 1 on; other ledgers have other spots. -/
theorem spotsL_known {ls : List Ledger} {sure : Int} (hl : LedsOk ls) : ∀ (ids : List Int) (e : Int), 0 ≤ e → e + 8 * ids.length < 18446744073709551616 → idsOkB ls ids = true → ids.Nodup →
    ∀ (i j : Nat) (s t : Spot), (spotsL ls sure e ids)[i]? = some s → (spotsL ls sure e ids)[j]? = some t → s.ledger = t.ledger → s.n = t.n → i = j
  | [], _, _, _, _, _, _, _, _, _, h, _ => by simp [spotsL, seqL] at h
  | id :: r, e, h0, h1, hk, hn, i, j, s, t, hi, hj => by
    obtain ⟨l, hf, hc, hk'⟩ := ids_head hk
    obtain ⟨hm, hid⟩ := findL_id hf
    obtain ⟨hcl, hla, hlb⟩ := hl l hm
    have hle := cnt_le hl hm sure
    obtain ⟨hn1, hn2⟩ := List.nodup_cons.1 hn
    rw [spotsL_cons sure e r hf] at hi hj
    simp only [List.length_cons] at h1
    have ha : addU e l.last = e + l.last := addU_small (by omega) (by omega)
    rw [ha] at hi hj
    intro hlg hnn
    rcases get_append hi with h2 | ⟨k, rfl, h2⟩ <;> rcases get_append hj with h3 | ⟨m, rfl, h3⟩
    · obtain ⟨h4, rfl⟩ := spotsAt_get h2
      obtain ⟨h5, rfl⟩ := spotsAt_get h3
      have e1 : addU (i : Int) 1 = (i : Int) + 1 := addU_small (by omega) (by omega)
      have e2 : addU (j : Int) 1 = (j : Int) + 1 := addU_small (by omega) (by omega)
      dsimp only at hnn
      omega
    · obtain ⟨h4, rfl⟩ := spotsAt_get h2
      have := (spotsL_at hl r (e + l.last) (by omega) (by omega) hk' m t h3).2
      dsimp only at hlg
      rw [← hlg, hid] at this
      exact absurd this hn1
    · obtain ⟨h4, rfl⟩ := spotsAt_get h3
      have := (spotsL_at hl r (e + l.last) (by omega) (by omega) hk' k s h2).2
      dsimp only at hlg
      rw [hlg, hid] at this
      exact absurd this hn1
    · rw [spotsL_known hl r (e + l.last) (by omega) (by omega) hk' hn2 k m s t h2 h3 hlg hnn]
/-- Who is sure of more has what he has who is sure of less. -/
theorem spotsL_more {ls : List Ledger} {sure more : Int} (h : sure ≤ more) : ∀ (ids : List Int) (e : Int), idsOkB ls ids = true → spotsL ls sure e ids <+: spotsL ls more e ids
  | [], _, _ => List.prefix_refl _
  | id :: t, e, hk => by
    obtain ⟨l, hf, hc, hk'⟩ := ids_head hk
    rw [spotsL_cons sure e t hf, spotsL_cons more e t hf]
    by_cases hc0 : l.closed = 0
    · rcases hc with rfl | hc
      · have e1 : ∀ x y, spotsL ls x y [] = [] := fun _ _ => rfl
        rw [e1, e1, List.append_nil, List.append_nil]
        unfold spotsAt cntOf
        rw [if_pos hc0, if_pos hc0]
        refine List.IsPrefix.map _ ?_
        refine ⟨(List.range ((min more 8).toNat - (min sure 8).toNat)).map (· + (min sure 8).toNat), ?_⟩
        have e2 : (min more 8).toNat = (min sure 8).toNat + ((min more 8).toNat - (min sure 8).toNat) := by omega
        conv => rhs; rw [e2, List.range_add]
        congr 1
        exact List.map_congr_left fun a _ => Nat.add_comm _ _
      · exact absurd hc0 hc
    · have e1 : spotsAt sure (e, l) = spotsAt more (e, l) := by unfold spotsAt; rw [cnt_closed sure hc0, cnt_closed more hc0]
      rw [e1]
      exact (List.prefix_append_right_inj _).2 (spotsL_more h t _ hk')
/-- What stands behind a spot. -/
def Behind (s t : Spot) : Prop := (s.ledger = t.ledger → t.n = s.n + 1) ∧ (s.ledger ≠ t.ledger → t.n = 1)
theorem spotsL_row {ls : List Ledger} {sure : Int} (hl : LedsOk ls) : ∀ (ids : List Int) (e : Int), 0 ≤ e → e + 8 * ids.length < 18446744073709551616 → idsOkB ls ids = true → ids.Nodup →
    (∀ s, (spotsL ls sure e ids)[0]? = some s → s.n = 1) ∧ ∀ (i : Nat) (s t : Spot), (spotsL ls sure e ids)[i]? = some s → (spotsL ls sure e ids)[i + 1]? = some t → Behind s t
  | [], _, _, _, _, _ => ⟨fun _ h => by simp [spotsL, seqL] at h, fun _ _ _ h => by simp [spotsL, seqL] at h⟩
  | id :: r, e, h0, h1, hk, hn => by
    obtain ⟨l, hf, hc, hk'⟩ := ids_head hk
    obtain ⟨hm, hid⟩ := findL_id hf
    obtain ⟨hcl, hla, hlb⟩ := hl l hm
    have hle := cnt_le hl hm sure
    obtain ⟨hn1, hn2⟩ := List.nodup_cons.1 hn
    rw [spotsL_cons sure e r hf]
    simp only [List.length_cons] at h1
    have ha : addU e l.last = e + l.last := addU_small (by omega) (by omega)
    rw [ha]
    obtain ⟨ih1, ih2⟩ := spotsL_row (sure := sure) hl r (e + l.last) (by omega) (by omega) hk' hn2
    refine ⟨fun s hs => ?_, fun i s t hi hj => ?_⟩
    · rcases get_append hs with h2 | ⟨k, hk0, h2⟩
      · obtain ⟨h4, rfl⟩ := spotsAt_get h2
        rfl
      · obtain rfl : k = 0 := by omega
        exact ih1 s h2
    · rcases get_append hi with h2 | ⟨k, rfl, h2⟩ <;> rcases get_append hj with h3 | ⟨m, hm', h3⟩
      · obtain ⟨h4, rfl⟩ := spotsAt_get h2
        obtain ⟨h5, rfl⟩ := spotsAt_get h3
        have e1 : addU (i : Int) 1 = (i : Int) + 1 := addU_small (by omega) (by omega)
        have e2 : addU ((i + 1 : Nat) : Int) 1 = ((i + 1 : Nat) : Int) + 1 := addU_small (by omega) (by omega)
        exact ⟨fun _ => by dsimp only; omega, fun h => absurd rfl h⟩
      · obtain ⟨h4, rfl⟩ := spotsAt_get h2
        rw [spotsAt_len] at hm'
        obtain rfl : m = 0 := by omega
        have hx := (spotsL_at hl r (e + l.last) (by omega) (by omega) hk' 0 t h3).2
        refine ⟨fun h => ?_, fun _ => ih1 t h3⟩
        dsimp only at h
        rw [← h, hid] at hx
        exact absurd hx hn1
      · have := (List.getElem?_eq_some_iff.1 h3).1
        omega
      · obtain rfl : m = k + 1 := by omega
        exact ih2 k s t h2 h3
theorem find_only {α : Type} {q : α → Bool} : ∀ {l : List α} {i : Nat} {s : α}, l[i]? = some s → q s = true → (∀ (j : Nat) (t : α), l[j]? = some t → q t = true → j = i) → l.find? q = some s
  | [], _, _, h, _, _ => by simp at h
  | x :: l, 0, s, h, hq, _ => by
    obtain rfl : x = s := by simpa using h
    exact List.find?_cons_of_pos hq
  | x :: l, i + 1, s, h, hq, ho => by
    rw [List.find?_cons_of_neg (fun hx => by have := ho 0 x rfl hx; omega)]
    exact find_only (l := l) (i := i) (by simpa using h) hq (fun j t hj ht => by have := ho (j + 1) t (by simpa using hj) ht; omega)

/-- The numbers of a plan that lies in memory. -/
structure PlanNums (p : Plan) : Prop where
  first : ∀ c ∈ p.channels, 0 ≤ c.first
  last : ∀ l ∈ p.ledgers, 0 ≤ l.last
theorem nums_of {p : PlanR} {w : World} (hp : p.Ok w) : PlanNums p.d :=
  ⟨fun c hc => by obtain ⟨x, hx, rfl⟩ := List.mem_map.1 hc; exact (hp.channels.ok x hx).first.1, fun l hl => by obtain ⟨x, hx, rfl⟩ := List.mem_map.1 hl; exact (hp.ledgers.ok x hx).2.2.2.2.2.1⟩
theorem leds_of {p : Plan} (hn : PlanNums p) (h : mayB p = true) : LedsOk p.ledgers := fun l hl => by
  have h1 := led_last (may_led h hl).1
  have h2 := hn.last l hl
  omega
/-- A channel that is there, in a plan that may be. -/
structure ChanOk (ls : List Ledger) (c : Channel) : Prop where
  first : 0 ≤ c.first ∧ c.first ≤ 4611686018427387903
  eight : c.ledgers.length ≤ 8
  ids : idsOkB ls c.ledgers = true
  nodup : c.ledgers.Nodup
theorem rise_lt : ∀ (l : List Int), riseB l = true → l.Pairwise (fun x y => x < y)
  | [], _ => List.Pairwise.nil
  | [a], _ => List.pairwise_singleton _ _
  | a :: b :: t, h => by
    simp only [riseB, Bool.and_eq_true, decide_eq_true_eq] at h
    have ih := rise_lt (b :: t) h.2
    refine List.pairwise_cons.2 ⟨fun x hx => ?_, ih⟩
    rcases List.mem_cons.1 hx with rfl | hx
    · exact h.1
    · have := (List.pairwise_cons.1 ih).1 x hx
      omega
theorem rise_nodup {l : List Int} (h : riseB l = true) : l.Nodup := (rise_lt l h).imp fun h => by omega
theorem chan_ok {p : Plan} (hn : PlanNums p) (h : mayB p = true) {c : Channel} (hc : c ∈ p.channels) : ChanOk p.ledgers c := by
  have h1 := may_chan h hc
  unfold channelB at h1
  simp only [Bool.and_eq_true, decide_eq_true_eq] at h1
  obtain ⟨⟨⟨⟨⟨⟨⟨⟨⟨⟨h1, _⟩, h2⟩, h3⟩, _⟩, _⟩, h4⟩, _⟩, _⟩, _⟩, _⟩ := h1
  simp only [countsB, List.all_cons, Bool.and_eq_true, decide_eq_true_eq] at h1
  exact ⟨⟨hn.first c hc, h1.2.2.1⟩, h2, h4, rise_nodup h3⟩
theorem chan_mem {p : Plan} {ch : Int} (h : chainHasB p ch = true) : mayB p = true ∧ chanOf p ch ∈ p.channels := by
  obtain ⟨hh1, hmay⟩ : hasB p.channels.length ch = true ∧ mayB p = true := by simpa [chainHasB] using h
  refine ⟨hmay, ?_⟩
  simp only [hasB, fromB, Bool.and_eq_true, decide_eq_true_eq] at hh1
  have hlt : (ch - 1).toNat < p.channels.length := by omega
  unfold chanOf
  rw [List.getD_eq_getElem?_getD, List.getElem?_eq_getElem hlt]
  exact List.getElem_mem hlt
theorem spots_eq {p : Plan} {ch : Int} (sure : Int) (h : chainHasB p ch = true) : spotsB p ch sure = spotsL p.ledgers sure (chanOf p ch).first (chanOf p ch).ledgers := by
  unfold spotsB
  rw [if_pos h]
  rfl
theorem spots_none {p : Plan} {ch : Int} (sure : Int) (h : chainHasB p ch = false) : spotsB p ch sure = [] := by
  unfold spotsB
  rw [h]
  rfl

/-- Each spot is found by its offset, and has it. -/
theorem spots_back {p : Plan} (hn : PlanNums p) {ch : Int} (sure : Int) (h : chainHasB p ch = true) {i : Nat} {s : Spot} (hi : (spotsB p ch sure)[i]? = some s) :
    s.offset = addU (chanOf p ch).first i ∧ oneB p ch sure (fun x => decide (x.offset = addU (chanOf p ch).first i)) = (s, 0) ∧ oneB p ch sure (fun x => decide (x.ledger = s.ledger) && decide (x.n = s.n)) = (s, 0) := by
  obtain ⟨hmay, hmem⟩ := chan_mem h
  have hl := leds_of hn hmay
  have hc := chan_ok hn hmay hmem
  have h8 := hc.eight
  have hf := hc.first
  rw [spots_eq sure h] at hi
  have hat := spotsL_at (sure := sure) hl _ _ hf.1 (by omega) hc.ids
  have hkn := spotsL_known (sure := sure) hl _ _ hf.1 (by omega) hc.ids hc.nodup
  have hoff : s.offset = addU (chanOf p ch).first i := by
    have h1 := (hat i s hi).1
    have h2 := addU_u64 (chanOf p ch).first i
    have hlen : ∀ (ids : List Int) (e : Int), idsOkB p.ledgers ids = true → (spotsL p.ledgers sure e ids).length ≤ 8 * ids.length := by
      intro ids
      induction ids with
      | nil => intro e _; exact Nat.zero_le _
      | cons id t ih =>
        intro e hk
        obtain ⟨l, hf, _, hk'⟩ := ids_head hk
        have := cnt_le hl (findL_id hf).1 sure
        have := ih (addU e l.last) hk'
        rw [spotsL_cons sure e t hf, List.length_append, spotsAt_len, List.length_cons]
        omega
    have h3 := hlen _ (chanOf p ch).first hc.ids
    have h4 := (List.getElem?_eq_some_iff.1 hi).1
    rw [h1, addU_small (by omega) (by omega)]
  refine ⟨hoff, ?_, ?_⟩
  · unfold oneB
    rw [if_pos h, spots_eq sure h, find_only hi (by simpa using hoff) ?_]
    intro j t hj ht
    have h1 := (hat i s hi).1
    have h2 := (hat j t hj).1
    simp only [decide_eq_true_eq] at ht
    omega
  · unfold oneB
    rw [if_pos h, spots_eq sure h, find_only hi (by simp) ?_]
    intro j t hj ht
    simp only [Bool.and_eq_true, decide_eq_true_eq] at ht
    exact hkn j i t s hj hi ht.1 ht.2
/-- Who is sure of more has all the spots of who is sure of less. -/
theorem spots_more {p : Plan} (hn : PlanNums p) (ch : Int) {sure more : Int} (hm : sure ≤ more) : spotsB p ch sure <+: spotsB p ch more := by
  cases h : chainHasB p ch with
  | false => rw [spots_none sure h, spots_none more h]; exact List.prefix_refl _
  | true =>
    obtain ⟨hmay, hmem⟩ := chan_mem h
    rw [spots_eq sure h, spots_eq more h]
    exact spotsL_more hm _ _ (chan_ok hn hmay hmem).ids
theorem spots_row {p : Plan} (hn : PlanNums p) (ch sure : Int) :
    (∀ s, (spotsB p ch sure)[0]? = some s → s.n = 1) ∧ ∀ (i : Nat) (s t : Spot), (spotsB p ch sure)[i]? = some s → (spotsB p ch sure)[i + 1]? = some t → t.offset = addU s.offset 1 ∧ Behind s t := by
  cases h : chainHasB p ch with
  | false =>
    rw [spots_none sure h]
    exact ⟨fun _ h => by simp at h, fun _ _ _ h => by simp at h⟩
  | true =>
    obtain ⟨hmay, hmem⟩ := chan_mem h
    have hl := leds_of hn hmay
    have hc := chan_ok hn hmay hmem
    have h8 := hc.eight
    have hf := hc.first
    obtain ⟨h1, h2⟩ := spotsL_row (sure := sure) hl _ _ hf.1 (by omega) hc.ids hc.nodup
    rw [← spots_eq sure h] at h1 h2
    refine ⟨h1, fun i s t hi ht => ⟨?_, h2 i s t hi ht⟩⟩
    have e1 := spots_back hn sure h hi
    have e2 := spots_back hn sure h ht
    rw [e1.1, e2.1]
    unfold addU
    omega
end Go.Proofs.YtdiamknibfamdaaGreat
