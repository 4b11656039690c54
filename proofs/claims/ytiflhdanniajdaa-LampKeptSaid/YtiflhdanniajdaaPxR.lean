import Derived.Test.YtiflhdanniajdaaPxQ
import Derived.Test.YtiflhdanniajdaaPxO
import Derived.Test.YtiflhdanniajdaaPxP
set_option linter.all false
set_option maxRecDepth 10000
namespace Go.PX
open Go.Proofs

/- Lamp: LampKept. -/

theorem leastX_min : ∀ {l : List (LTruth × Int)} {o : Option (LTruth × Int)} {x : LTruth × Int}, l.foldl leastS o = some x → (o = some x ∨ x ∈ l) ∧ (∀ z, o = some z → x.2 ≤ z.2) ∧ ∀ y ∈ l, x.2 ≤ y.2
  | [], o, x, h => by
    have h : o = some x := h
    subst h
    exact ⟨.inl rfl, fun z hz => by cases hz; exact Int.le_refl _, fun y hy => by cases hy⟩
  | y :: r, o, x, h => by
    rw [List.foldl_cons] at h
    have hw : ∃ w, leastS o y = some w ∧ (o = some w ∨ w = y) ∧ w.2 ≤ y.2 ∧ ∀ z, o = some z → w.2 ≤ z.2 := by
      cases o with
      | none => exact ⟨y, rfl, .inr rfl, Int.le_refl _, fun z h => by cases h⟩
      | some z =>
        by_cases h : y.2 - z.2 < 0
        · exact ⟨y, by simp [leastS, h], .inr rfl, Int.le_refl _, fun u hu => by cases hu; omega⟩
        · exact ⟨z, by simp [leastS, h], .inl rfl, by omega, fun u hu => by cases hu; exact Int.le_refl _⟩
    obtain ⟨w, hw, h1, h2, h3⟩ := hw
    rw [hw] at h
    obtain ⟨k1, k2, k3⟩ := leastX_min h
    have k4 := k2 w rfl
    refine ⟨?_, fun z hz => Int.le_trans k4 (h3 z hz), fun u hu => ?_⟩
    · rcases k1 with k1 | k1
      · cases k1
        rcases h1 with h1 | h1
        · exact .inl h1
        · right; rw [h1]; simp
      · exact .inr (List.mem_cons_of_mem _ k1)
    · rcases List.mem_cons.1 hu with rfl | hu
      · exact Int.le_trans k4 h2
      · exact k3 u hu

theorem leastX_none : ∀ {l : List (LTruth × Int)} {o : Option (LTruth × Int)}, l.foldl leastS o = none → l = []
  | [], _, _ => rfl
  | y :: r, o, h => by
    rw [List.foldl_cons] at h
    have h2 := leastX_none h
    subst h2
    have h : leastS o y = none := h
    cases o with
    | none => cases h
    | some z => unfold leastS at h; simp only at h; split at h <;> cases h

theorem fails_ag {c : LCase} (h0 : (checkL c).2.2 = 0) {L : List Bool} (hL : L.length = c.lamp.night.toNat) (ps : List LPhase) : -1 ≤ failsL L ps ∧ (0 ≤ failsL L ps → 1 ≤ failsL L ps) ∧ failsL L ps < c.lamp.night := by
  have hn := (checkL_ok h0).lamp.night
  have h1 := (failsL_rng (l := ps) (lit := L) (by omega)).1
  refine ⟨h1, failsF_lo, ?_⟩
  cases L with
  | nil => simp at hL; omega
  | cons b r =>
    have := failsF_rng (l := ps) (r := r) (b := b) (A := initA b ps.length) (s := 1)
    have e : failsL (b :: r) ps = failsF ps r b (initA b ps.length) 1 := rfl
    rw [List.length_cons] at hL
    omega

/-- What Kept says. -/
theorem kept_law {c : LCase} {l : LLight} (h : entrE c [l] = 0) :
    (keptE c l = 9 ∧ keptX c l = (⟨0, []⟩, 0) ∧ agL c = []) ∨ (keptE c l = 4 ∧ keptX c l = (⟨0, []⟩, 0) ∧ ∀ p ∈ agL c, failsL p.2 l.phases = -1) ∨
      (keptE c l = 0 ∧ ((keptX c l).1, courseL c.lamp c.windings (keptX c l).1) ∈ agL c ∧ failsL (courseL c.lamp c.windings (keptX c l).1) l.phases = (keptX c l).2 ∧ 1 ≤ (keptX c l).2 ∧ (keptX c l).2 < c.lamp.night ∧
        ∀ p ∈ agL c, failsL p.2 l.phases = -1 ∨ (keptX c l).2 ≤ failsL p.2 l.phases) := by
  have h0 := (entr_ok h).1
  have hlen : ∀ p ∈ agL c, p.2.length = c.lamp.night.toNat := fun p hp => (agL_ok h0 hp).2.2
  have hE : keptE c l = if agL c = [] then 9 else if leastX (failuresL l.phases (agL c)) = none then 4 else 0 := by unfold keptE; rw [if_pos h]
  have hX : keptX c l = (leastX (failuresL l.phases (agL c))).getD (⟨0, []⟩, 0) := by unfold keptX; rw [if_pos h]
  by_cases ha : agL c = []
  · left
    rw [hE, if_pos ha, hX, ha]
    exact ⟨rfl, rfl, rfl⟩
  · right
    rw [if_neg ha] at hE
    cases hm : leastX (failuresL l.phases (agL c)) with
    | none =>
      left
      rw [hE, hX, if_pos hm]
      refine ⟨rfl, by rw [hm]; rfl, fun p hp => ?_⟩
      have hf := fails_ag h0 (hlen p hp) l.phases
      have hn := leastX_none hm
      unfold failuresL at hn
      have := List.filterMap_eq_nil_iff.1 hn p hp
      split at this
      · omega
      · cases this
    | some x =>
      right
      rw [hE, hX, hm, if_neg (by simp)]
      obtain ⟨k1, _, k3⟩ := leastX_min hm
      rcases k1 with k1 | k1
      · cases k1
      unfold failuresL at k1
      obtain ⟨p, hp, hpx⟩ := List.mem_filterMap.1 k1
      have hf := fails_ag h0 (hlen p hp) l.phases
      split at hpx
      · cases hpx
      cases hpx
      have hpe := (agL_ok h0 hp).2.1
      show (0 : Int) = 0 ∧ (p.1, courseL c.lamp c.windings p.1) ∈ agL c ∧ failsL (courseL c.lamp c.windings p.1) l.phases = failsL p.2 l.phases ∧ 1 ≤ failsL p.2 l.phases ∧ failsL p.2 l.phases < c.lamp.night ∧ ∀ q ∈ agL c, failsL q.2 l.phases = -1 ∨ failsL p.2 l.phases ≤ failsL q.2 l.phases
      rw [← hpe]
      refine ⟨rfl, hp, rfl, by omega, hf.2.2, fun q hq => ?_⟩
      have hfq := fails_ag h0 (hlen q hq) l.phases
      by_cases hq0 : failsL q.2 l.phases < 0
      · left; omega
      · right
        exact k3 (q.1, failsL q.2 l.phases) (List.mem_filterMap.2 ⟨q, hq, by rw [if_neg hq0]⟩)

set_option maxHeartbeats 1000000 in
theorem la9 (c : LCase) (l : LLight) (x : List Int) (hx : ∀ b ∈ x, 0 ≤ b ∧ b ≤ 255) : FnV Try.prog 9 [c.d, l.d, bytesD x] (.bool true) := by
  refine fnV_of mixed tysOk Try.func9 rfl (ft := ft9) 3 (by decide +kernel) (by rfl) fun {σ} Y st => ?_
  conv => whnf
  refine CallA_v (la32 c l) rfl rfl ?_
  conv => whnf
  refine CallA_v (la47 c) rfl rfl ?_
  conv => whnf
  by_cases hE : entrE c [l] = 0
  case neg =>
    have hk : keptE c l = entrE c [l] := by unfold keptE; rw [if_neg hE]
    have hX : keptX c l = (⟨0, []⟩, 0) := by unfold keptX; rw [if_neg hE]
    rw [hk, hX]
    cases hv : valL c with
    | false =>
      conv => whnf
      refine brk_i (fun _ => ?_) (fun h => absurd h (by simp [hE]))
      conv => whnf
      refine CallA_v (la22) rfl rfl ?_
      conv => whnf
      exact RetA_view 0 rfl ⟨⟨rfl, rfl⟩, rfl⟩
    | true =>
      have hc : (checkL c).2.2 = 0 := of_decide_eq_true hv
      have hlb : lightsB [l] = false := decide_eq_false (by unfold entrE at hE; rwa [if_pos hc] at hE)
      conv => whnf
      refine CallA_view (ds := [lightsD [l]]) (la52 [l]) rfl 1 rfl ?_
      rw [hlb]
      conv => whnf
      refine brk_i (fun _ => ?_) (fun h => absurd h (by simp [hE]))
      conv => whnf
      refine CallA_v (la22) rfl rfl ?_
      conv => whnf
      exact RetA_view 0 rfl ⟨⟨rfl, rfl⟩, rfl⟩
  have hc := (entr_ok hE).1
  have hR := checkL_ok hc
  have hn := hR.lamp.night
  have hv : valL c = true := decide_eq_true hc
  have hlb : lightsB [l] = true := decide_eq_true (by unfold entrE at hE; rwa [if_pos hc] at hE)
  have hT := truthX_ok hR hx
  have hK := kept_law hE
  have hfe : ∀ t, TruthR c t → failE c l t = 0 := fun t ht => by unfold failE; rw [if_pos hE]; exact truth_iff.2 ht
  have hfv : ∀ t, TruthR c t → failV c l t = failsL (courseL c.lamp c.windings t) l.phases := fun t ht => by unfold failV; rw [if_pos (hfe t ht)]
  have hag : ∀ t, agreesB c t = true → (t, courseL c.lamp c.windings t) ∈ agL c := fun t => (agrees_iff hc).1
  rw [hv]
  conv => whnf
  refine CallA_view (ds := [lightsD [l]]) (la52 [l]) rfl 1 rfl ?_
  rw [hlb]
  conv => whnf
  refine CallA_v (la48 c hR x hx) rfl rfl ?_
  conv => whnf
  generalize truthX c x = t at hT ⊢
  refine CallA_v (la55 c t) rfl rfl ?_
  conv => whnf
  refine CallA_v (la30 c l t) rfl rfl ?_
  conv => whnf
  rw [hfe t hT, hfv t hT]
  have hat := hag t
  generalize agreesB c t = is at hat ⊢
  rcases hK with ⟨k1, k2, k3⟩ | ⟨k1, k2, k3⟩ | ⟨k1, k2, k3, k4, k5, k6⟩
  · rw [k1, k2]
    cases is with
    | true => have := hat rfl; rw [k3] at this; cases this
    | false =>
      conv => whnf
      refine CallA_v (la22) rfl rfl ?_
      conv => whnf
      exact RetA_view 0 rfl ⟨⟨rfl, rfl⟩, rfl⟩
  · rw [k1, k2]
    cases is with
    | true =>
      rw [k3 _ (hat rfl)]
      conv => whnf
      refine CallA_v (la22) rfl rfl ?_
      conv => whnf
      exact RetA_view 0 rfl ⟨⟨rfl, rfl⟩, rfl⟩
    | false =>
      conv => whnf
      refine CallA_v (la22) rfl rfl ?_
      conv => whnf
      exact RetA_view 0 rfl ⟨⟨rfl, rfl⟩, rfl⟩
  · have hT2 := ((mem_agL hc).1 k2).1
    have ha2 : agreesB c (keptX c l).1 = true := (agrees_iff hc).2 k2
    have hte := truth_iff.2 hT2
    have hfe2 := hfe _ hT2
    have hfv2 := hfv _ hT2
    rw [k3] at hfv2
    have hw := hR.winds
    rw [k1]
    generalize keptX c l = X at k2 k3 k4 k5 k6 hT2 ha2 hte hfe2 hfv2 ⊢
    obtain ⟨u, s⟩ := X
    simp only at k2 k3 k4 k5 k6 hT2 ha2 hte hfe2 hfv2
    conv => whnf
    refine CallA_v (ds := [c.d, u.d]) (la56 c u (by omega)) rfl rfl ?_
    rw [hte]
    conv => whnf
    refine CallA_v (ds := [c.d, u.d]) (la55 c u) rfl rfl ?_
    rw [ha2]
    conv => whnf
    refine brk_i (fun h => absurd h (by simp; omega)) (fun _ => ?_)
    conv => whnf
    refine brk_i (fun h => absurd h (by simp; omega)) (fun _ => ?_)
    conv => whnf
    refine CallA_v (ds := [c.d, l.d, u.d]) (la30 c l u) rfl rfl ?_
    rw [hfe2, hfv2]
    conv => whnf
    refine brk_i (fun _ => ?_) (fun h => absurd h (by simp))
    conv => whnf
    cases is with
    | false =>
      conv => whnf
      refine CallA_v (la22) rfl rfl ?_
      conv => whnf
      exact RetA_view 0 rfl ⟨⟨rfl, rfl⟩, rfl⟩
    | true =>
      have h6 := k6 _ (hat rfl)
      simp only at h6
      conv => whnf
      refine brk_i (fun _ => ?_) (fun h7 => ?_)
      · conv => whnf
        refine CallA_v (la22) rfl rfl ?_
        conv => whnf
        exact RetA_view 0 rfl ⟨⟨rfl, rfl⟩, rfl⟩
      · have h7 : ¬ failsL (courseL c.lamp c.windings t) l.phases = -1 := of_decide_eq_false h7
        conv => whnf
        refine brk_i (fun _ => ?_) (fun h => absurd h (by simp; omega))
        conv => whnf
        refine CallA_v (la22) rfl rfl ?_
        conv => whnf
        exact RetA_view 0 rfl ⟨⟨rfl, rfl⟩, rfl⟩
end Go.PX
