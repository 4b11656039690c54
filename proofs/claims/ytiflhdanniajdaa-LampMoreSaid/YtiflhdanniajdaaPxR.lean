import Derived.Test.YtiflhdanniajdaaPxQ
set_option linter.all false
set_option maxRecDepth 10000
namespace Go.PX
open Go.Proofs

/- Lamp: LampMore. -/

def moreC (c : LCase) (a b : Int) : LCase := withS c (c.sights ++ [⟨a.tmod c.lamp.night, decide (b.tmod 2 = 1)⟩])

theorem more_ok {c : LCase} (h0 : (checkL c).2.2 = 0) (h8 : c.sights.length ≠ 8) {a b : Int} (ha : 0 ≤ a) : (checkL (moreC c a b)).2.2 = 0 := by
  have hR := checkL_ok h0
  have hn := hR.lamp.night
  have h9 := hR.sights
  refine with_check h0 (by simp; omega) fun s hs => ?_
  rcases List.mem_append.1 hs with hs | hs
  · exact hR.sight s hs
  · rw [List.mem_singleton.1 hs]
    have h1 := Int.tmod_nonneg c.lamp.night ha
    have h2 := Int.tmod_lt_of_pos a (b := c.lamp.night) (by omega)
    simp only
    omega

theorem more_sub {c : LCase} (h0 : (checkL c).2.2 = 0) {a b : Int} (hm : (checkL (moreC c a b)).2.2 = 0) {p : LTruth × List Bool} (hp : p ∈ agL (moreC c a b)) : p ∈ agL c := by
  obtain ⟨h1, h2, h3⟩ := (mem_agL hm).1 hp
  exact (mem_agL h0).2 ⟨with_truth.1 h1, h2, fun s hs => h3 s (List.mem_append_left _ hs)⟩

theorem range_two {c : LCase} (h0 : (checkL c).2.2 = 0) : (rangeE c = 9 ∧ agL c = []) ∨ (rangeE c = 0 ∧ ∃ p, p ∈ agL c) := by
  cases h : agL c with
  | nil => exact .inl ⟨(range_none h0 h).1, rfl⟩
  | cons p r => exact .inr ⟨(range_has h0 (p := p) (by rw [h]; simp)).1, p, by simp⟩

/-- With one more sight nothing is added to what Range leaves possible. -/
theorem more_range {c : LCase} (h0 : (checkL c).2.2 = 0) {a b : Int} (hm : (checkL (moreC c a b)).2.2 = 0) {p : LTruth × List Bool} (hp : p ∈ agL (moreC c a b)) :
    (rangeA c).lo ≤ (rangeA (moreC c a b)).lo ∧ (rangeA (moreC c a b)).hi ≤ (rangeA c).hi ∧ (rangeB' c).length = (rangeB' (moreC c a b)).length ∧
      ∀ (k : Nat) (s u : Span), (rangeB' c)[k]? = some s → (rangeB' (moreC c a b))[k]? = some u → s.lo ≤ u.lo ∧ u.hi ≤ s.hi := by
  obtain ⟨_, a2, a3, a4, _, _⟩ := range_has h0 (more_sub h0 hm hp)
  obtain ⟨_, _, b3, b4, ⟨q1, b5, b6⟩, q2, b7, b8⟩ := range_has hm hp
  have h1 := a2 _ (more_sub h0 hm b5)
  have h2 := a2 _ (more_sub h0 hm b7)
  refine ⟨by omega, by omega, by rw [a3, b3]; rfl, fun k s u hs hu => ?_⟩
  obtain ⟨c1, _, _⟩ := a4 k s hs
  obtain ⟨_, ⟨r1, d1, d2⟩, r2, d3, d4⟩ := b4 k u hu
  have h3 := c1 _ (more_sub h0 hm d1)
  have h4 := c1 _ (more_sub h0 hm d3)
  omega

theorem more_at {c : LCase} (h0 : (checkL c).2.2 = 0) {a b : Int} (hm : (checkL (moreC c a b)).2.2 = 0) {p : LTruth × List Bool} (hp : p ∈ agL (moreC c a b)) {s : Int} (hs : 0 ≤ s ∧ s < c.lamp.night) :
    atE c s = 0 ∧ atE (moreC c a b) s = 0 ∧ (atV c s = 2 ∨ atV (moreC c a b) s = atV c s) := by
  obtain ⟨a1, a2, a3, a4, _, _⟩ := at_has h0 hs (more_sub h0 hm hp)
  obtain ⟨b1, _, _, _, b5, b6⟩ := at_has hm hs hp
  refine ⟨a1, b1, ?_⟩
  rcases a2 with h | h | h
  · right; rw [h]; exact b6 fun q hq => a4 h q (more_sub h0 hm hq)
  · right; rw [h]; exact b5 fun q hq => a3 h q (more_sub h0 hm hq)
  · exact .inl h

theorem which_len {c : LCase} {l : List LLight} (h : entrE c l = 0) : (whichV c l).length ≤ 6 := by
  have hl0 : (lightsF l).2 = 0 := by
    have h0 := (entr_ok h).1
    unfold entrE at h; rwa [if_pos h0] at h
  have hl := (lightsF_ok hl0).1
  have key : ∀ {A : List (LTruth × List Bool)} {l : List LLight} {i : Int}, (whichF A l i).length ≤ l.length := by
    intro A l
    induction l with
    | nil => intro i; exact Nat.le_refl _
    | cons x r ih =>
      intro i
      rw [whichF]
      have := ih (i := i + 1)
      split <;> simp <;> omega
  unfold whichV
  rw [if_pos h]
  have := key (A := agL c) (l := l) (i := 0)
  omega

theorem more_which {c : LCase} {l : List LLight} (h : entrE c l = 0) {a b : Int} (hm : entrE (moreC c a b) l = 0) {n : Int} (hn : n ∈ whichV (moreC c a b) l) : n ∈ whichV c l := by
  unfold whichV at hn ⊢
  rw [if_pos hm, mem_which] at hn
  rw [if_pos h, mem_which]
  obtain ⟨k, x, h1, h2, h3⟩ := hn
  obtain ⟨p, hp, h4⟩ := List.any_eq_true.1 h3
  exact ⟨k, x, h1, h2, List.any_eq_true.2 ⟨p, more_sub (entr_ok h).1 (entr_ok hm).1 hp, h4⟩⟩

def headC (c : LCase) : List D := [i64 c.lamp.drum, spansD c.lamp.lit, i64 c.lamp.start.lo, i64 c.lamp.start.hi, i64 c.lamp.speed.lo, i64 c.lamp.speed.hi, i64 c.lamp.slow, i64 c.lamp.night, intsD c.windings]

theorem dsOf_inj : ∀ l : List D, dsOf (inj l) = some l
  | [] => rfl
  | a :: r => by
    show (match dsOf (inj r) with | some l => some (a :: l) | none => none) = _
    rw [dsOf_inj r]

theorem get_frzA {X : Option Obj} {g : Nat → Option DO} {id sz n : Nat} {A : List D} {d : D} (h1 : X = some (replO g (.box (.vv (inj A ++ [.sl id sz 0 n]))))) (hv : viewV g (.sl id sz 0 n) = some d) : X = some (.box (.dd (A ++ [d]))) := by
  rw [h1]
  have : replL g (inj A ++ [.sl id sz 0 n]) = inj (A ++ [d]) := by
    rw [replL_append, replL_inj, inj_append]
    simp [replL, repl, hv, inj]
  simp [replO, this, dsOf_inj]

set_option maxHeartbeats 2000000 in
theorem la12 (c : LCase) (l : List LLight) (a b : Int) (ha : 0 ≤ a ∧ a ≤ 255) (hb : 0 ≤ b ∧ b ≤ 255) : FnV Try.prog 12 [c.d, lightsD l, .agg [.int .u8 a, .int .u8 b]] (.bool true) := by
  refine fnV_of mixed tysOk Try.func12 rfl (ft := ft12) 3 (by decide +kernel) (by rfl) fun {σ} Y st => ?_
  conv => whnf
  refine CallA_v (la47 c) rfl rfl ?_
  conv => whnf
  cases hv : valL c with
  | false =>
    conv => whnf
    refine CallA_v (la22) rfl rfl ?_
    conv => whnf
    exact RetA_view 0 rfl ⟨⟨rfl, rfl⟩, rfl⟩
  | true =>
    have h0 : (checkL c).2.2 = 0 := of_decide_eq_true hv
    have hR := checkL_ok h0
    have hsn := hR.sights
    have hn := hR.lamp.night
    conv => whnf
    refine brk_i (fun _ => ?_) (fun h8 => ?_)
    · conv => whnf
      refine CallA_v (la22) rfl rfl ?_
      conv => whnf
      exact RetA_view 0 rfl ⟨⟨rfl, rfl⟩, rfl⟩
    have h8 : c.sights.length ≠ 8 := by have := of_decide_eq_false h8; rw [List.length_map] at this; omega
    have hm := more_ok h0 h8 (a := a) (b := b) ha.1
    have hmd : (moreC c a b).d = .agg (headC c ++ [sightsD (c.sights ++ [⟨a.tmod c.lamp.night, decide (b.tmod 2 = 1)⟩])]) := rfl
    conv => whnf
    refine ownK_whole rfl ?_
    conv => whnf
    refine chk_i (by rw [Bool.and_eq_true]; exact ⟨lenAllD_map (fun _ => ⟨rfl, rfl⟩) _, rfl⟩) ?_
    conv => whnf
    refine chk_i (decide_eq_true (by
      show (0 + (c.sights.map LSight.cells).length) * 16 ≤ 140737488355328
      rw [List.length_map]; omega)) ?_
    conv => whnf
    refine arith_in (wrap_i64 (by (try dsimp only); omega)) ?_
    conv => whnf
    refine chk_i (decide_eq_true (by omega)) ?_
    conv => whnf
    refine DrawCall_v (la59 _ _) rfl rfl ?_
    conv => whnf
    refine ownK_whole (by simp [Els.len]) ?_
    conv => whnf
    refine ownK_whole (by simp [Els.len]) ?_
    conv => whnf
    refine chk_i (decide_eq_true (by
      show (([] ++ c.sights.map LSight.cells).length + 1) * 16 ≤ 140737488355328
      simp; omega)) ?_
    conv => whnf
    refine CallA_frz 1 [53] ?_
    have hmc : (moreC c a b).cells = headC c ++ [sightsD (c.sights ++ [⟨a.tmod c.lamp.night, decide (b.tmod 2 = 1)⟩])] := rfl
    refine CallA_sub (e' := [(1, .d (lightsD l)), (3, .ptr 3 0), (5, .ptr 5 0), (6, .d (.bool false)), (7, .ptr 7 0)]) (h' := [(3, .box (.dd c.cells)), (5, .box (.dd [.int .u8 a, .int .u8 b])), (7, .box (.dd (moreC c a b).cells))]) (args' := [.d c.d]) ⟨rfl, rfl, rfl, rfl, rfl, trivial⟩
      ⟨rfl, rfl, ?_, trivial⟩ rfl ?_
    · rw [hmc]
      refine get_frzA (A := headC c) rfl ?_
      refine viewV_sl' (es' := List.map LSight.cells (c.sights ++ [(⟨a.tmod c.lamp.night, decide (b.tmod 2 = 1)⟩ : LSight)])) rfl ?_ ?_
      · simp [LSight.cells]
      · simp [Els.len]
    have hsame : ∀ p, p ∈ agL (moreC c a b) → p ∈ agL c := fun p => more_sub h0 hm
    have hR2 := range_two hm
    have hR1 := range_two h0
    have hrg := fun p (hp : p ∈ agL (moreC c a b)) => more_range h0 hm hp
    have hat := fun p (hp : p ∈ agL (moreC c a b)) s (hs : 0 ≤ s ∧ s < c.lamp.night) => more_at h0 hm hp hs
    have hnt : (moreC c a b).lamp.night = c.lamp.night := rfl
    have hwh := fun (h : entrE c l = 0) (h2 : entrE (moreC c a b) l = 0) n => more_which h h2 (a := a) (b := b) (n := n)
    clear hmd hmc
    generalize moreC c a b = m at hm hR2 hrg hat hnt hwh hsame ⊢
    refine CallA_v (la23 c) rfl rfl ?_
    conv => whnf
    refine CallA_v (la23 m) rfl rfl ?_
    conv => whnf
    rcases hR2 with ⟨h2, _⟩ | ⟨h2, p, hp⟩
    · rw [h2]
      rcases hR1 with ⟨h1, _⟩ | ⟨h1, _⟩
      · rw [h1]
        conv => whnf
        refine CallA_v (la22) rfl rfl ?_
        conv => whnf
        exact RetA_view 0 rfl ⟨⟨rfl, rfl⟩, rfl⟩
      · rw [h1]
        conv => whnf
        refine CallA_v (la22) rfl rfl ?_
        conv => whnf
        exact RetA_view 0 rfl ⟨⟨rfl, rfl⟩, rfl⟩
    have h1 : rangeE c = 0 := by
      rcases hR1 with ⟨_, h1⟩ | ⟨h1, _⟩
      · have := hsame p hp; rw [h1] at this; cases this
      · exact h1
    obtain ⟨r1, r2, r3, r4⟩ := hrg p hp
    rw [h1, h2]
    generalize rangeA c = A1 at r1 r2 ⊢
    generalize rangeA m = A2 at r1 r2 ⊢
    have hBl : (rangeB' c).length ≤ 3 := by
      have := (range_has h0 (hsame p hp)).2.2.1
      have := hR.winds
      omega
    generalize rangeB' c = B1 at r3 r4 hBl ⊢
    generalize rangeB' m = B2 at r3 r4 ⊢
    conv => whnf
    refine brk_i (fun h => absurd h (by simp; omega)) (fun _ => ?_)
    conv => whnf
    refine brk_i (fun h => absurd h (by simp; omega)) (fun _ => ?_)
    conv => whnf
    refine brk_i (fun h => absurd h (by simp [r3])) (fun _ => ?_)
    conv => whnf
    refine LoopA_i (T := tys) tysOk (by exact drawsB_spec mixed tysOk (by decide +kernel)) B1 (fun i (_ : Unit) => ⟨[(1, .d (lightsD l)), (3, .ptr 3 0), (5, .ptr 5 0), (6, .d (.bool false)), (7, .ptr 7 0), (9, .d (spansD B1)), (12, .d (spansD B2)), (14, .d (i64 i))], [(3, .box (.dd c.cells)), (5, .box (.dd [.int .u8 a, .int .u8 b])), (7, .box (.dd m.cells))], st⟩) (fun i r _ => True) () (Wk.sub ⟨(by first | rfl | (simp only [List.length_map]; rfl) | simp [PX.get]), (by first | rfl | (simp only [List.length_map]; rfl) | simp [PX.get]), (by first | rfl | (simp only [List.length_map]; rfl) | simp [PX.get]), (by first | rfl | (simp only [List.length_map]; rfl) | simp [PX.get]), (by first | rfl | (simp only [List.length_map]; rfl) | simp [PX.get]), (by first | rfl | (simp only [List.length_map]; rfl) | simp [PX.get]), (by first | rfl | (simp only [List.length_map]; rfl) | simp [PX.get]), (by first | rfl | (simp only [List.length_map]; rfl) | simp [PX.get]), trivial⟩ ⟨(by first | rfl | (simp only [List.length_map]; rfl) | simp [PX.get]), (by first | rfl | (simp only [List.length_map]; rfl) | simp [PX.get]), (by first | rfl | (simp only [List.length_map]; rfl) | simp [PX.get]), trivial⟩) trivial ?_ ?_
    · rintro i s r _ hs hlt hr _
      obtain ⟨u, hu⟩ : ∃ u, B2[i]? = some u := ⟨_, List.getElem?_eq_getElem (by omega)⟩
      obtain ⟨k1, k2⟩ := r4 i s u hs hu
      conv => whnf
      refine brk_i (fun _ => ?_) (fun h => absurd hlt (by have := of_decide_eq_false h; simp at this; omega))
      conv => whnf
      refine elemK_nat hu ?_
      conv => whnf
      refine elemK_nat hs ?_
      conv => whnf
      refine brk_i (fun h => absurd h (by simp; omega)) (fun _ => ?_)
      conv => whnf
      refine elemK_nat hu ?_
      conv => whnf
      refine elemK_nat hs ?_
      conv => whnf
      refine brk_i (fun h => absurd h (by simp; omega)) (fun _ => ?_)
      conv => whnf
      refine arith_in (wrap_i64 (by (try dsimp only); omega)) ?_
      conv => whnf
      exact ⟨(), trivial, (Wk.sub ⟨(by first | rfl | (simp only [List.length_map]; rfl) | simp [PX.get]), (by first | rfl | (simp only [List.length_map]; rfl) | simp [PX.get]), (by first | rfl | (simp only [List.length_map]; rfl) | simp [PX.get]), (by first | rfl | (simp only [List.length_map]; rfl) | simp [PX.get]), (by first | rfl | (simp only [List.length_map]; rfl) | simp [PX.get]), (by first | rfl | (simp only [List.length_map]; rfl) | simp [PX.get]), (by first | rfl | (simp only [List.length_map]; rfl) | simp [PX.get]), (by first | rfl | (simp only [List.length_map]; rfl) | simp [PX.get]), trivial⟩ ⟨(by first | rfl | (simp only [List.length_map]; rfl) | simp [PX.get]), (by first | rfl | (simp only [List.length_map]; rfl) | simp [PX.get]), (by first | rfl | (simp only [List.length_map]; rfl) | simp [PX.get]), trivial⟩)⟩
    rintro _ _
    conv => whnf
    refine brk_i (fun h => absurd h (by simp)) (fun _ => ?_)
    conv => whnf
    have hb2 : b.tdiv 2 = b / 2 := Int.tdiv_eq_ediv_of_nonneg hb.1
    refine arith_in (wrap_i64 (by (try dsimp only); omega)) ?_
    conv => whnf
    refine arith_to (b / 2) hb2 (wrap_i64 (by omega)) ?_
    conv => whnf
    refine chk_i (decide_eq_true (by omega)) ?_
    conv => whnf
    have hs0 : 0 ≤ (b / 2).tmod c.lamp.night ∧ (b / 2).tmod c.lamp.night < c.lamp.night := ⟨Int.tmod_nonneg _ (by omega), Int.tmod_lt_of_pos _ (by omega)⟩
    obtain ⟨e1, e2, e3⟩ := hat p hp _ hs0
    refine CallA_v (ds := [c.d, i64 ((b / 2).tmod c.lamp.night)]) (la25 c _) rfl rfl ?_
    conv => whnf
    refine CallA_v (ds := [m.d, i64 ((b / 2).tmod c.lamp.night)]) (la25 m _) rfl rfl ?_
    rw [e1, e2]
    generalize atV c ((b / 2).tmod c.lamp.night) = v1 at e3 ⊢
    generalize atV m ((b / 2).tmod c.lamp.night) = v2 at e3 ⊢
    conv => whnf
    refine brk_i (fun h5 => ?_) (fun h5 => ?_)
    · have h5 : v1 ≠ 2 := by simpa using h5
      have h6 := e3.resolve_left h5
      subst h6
      conv => whnf
      refine brk_i (fun h => absurd h (by simp)) (fun _ => ?_)
      conv => whnf
      refine CallA_v (la52 l) rfl rfl ?_
      conv => whnf
      cases hlv : lightsB l with
      | false =>
        conv => whnf
        refine CallA_v (la22) rfl rfl ?_
        conv => whnf
        exact RetA_view 0 rfl ⟨⟨rfl, rfl⟩, rfl⟩
      | true =>
        have hl0 : (lightsF l).2 = 0 := of_decide_eq_true hlv
        have hEn : entrE c l = 0 := by unfold entrE; rw [if_pos h0]; exact hl0
        have hEm : entrE m l = 0 := by unfold entrE; rw [if_pos hm]; exact hl0
        have hw := hwh hEn hEm
        have hl1 := which_len hEn
        have hl2 := which_len hEm
        conv => whnf
        refine CallA_v (la35 c l) rfl rfl ?_
        conv => whnf
        refine CallA_v (la35 m l) rfl rfl ?_
        conv => whnf
        rw [hEn, hEm]
        generalize whichV c l = w1 at hw hl1 ⊢
        generalize whichV m l = w2 at hw hl2 ⊢
        conv => whnf
        refine LoopA_i (T := tys) tysOk (by exact drawsB_spec mixed tysOk (by decide +kernel)) w2 (fun i (_ : Unit) => ⟨[(6, .d (.bool false)), (20, .d (intsD w1)), (21, .d (i64 0)), (22, .d (intsD w2)), (23, .d (i64 0)), (24, .d (i64 i))], [], st⟩) (fun i r _ => True) () (Wk.sub ⟨(by first | rfl | (simp only [List.length_map]; rfl) | simp [PX.get]), (by first | rfl | (simp only [List.length_map]; rfl) | simp [PX.get]), (by first | rfl | (simp only [List.length_map]; rfl) | simp [PX.get]), (by first | rfl | (simp only [List.length_map]; rfl) | simp [PX.get]), (by first | rfl | (simp only [List.length_map]; rfl) | simp [PX.get]), (by first | rfl | (simp only [List.length_map]; rfl) | simp [PX.get]), trivial⟩ trivial) trivial ?_ ?_
        · rintro i y r _ hy hlt hr _
          conv => whnf
          refine brk_i (fun _ => ?_) (fun h => absurd hlt (by have := of_decide_eq_false h; simp at this; omega))
          conv => whnf
          refine elemK_nat hy ?_
          conv => whnf
          refine CallA_v (ds := [intsD w1, i64 y]) (la53 w1 y (by omega)) rfl rfl ?_
          rw [decide_eq_true (hw y (List.mem_of_getElem? hy))]
          conv => whnf
          refine arith_in (wrap_i64 (by (try dsimp only); omega)) ?_
          conv => whnf
          exact ⟨(), trivial, (Wk.sub ⟨(by first | rfl | (simp only [List.length_map]; rfl) | simp [PX.get]), (by first | rfl | (simp only [List.length_map]; rfl) | simp [PX.get]), (by first | rfl | (simp only [List.length_map]; rfl) | simp [PX.get]), (by first | rfl | (simp only [List.length_map]; rfl) | simp [PX.get]), (by first | rfl | (simp only [List.length_map]; rfl) | simp [PX.get]), (by first | rfl | (simp only [List.length_map]; rfl) | simp [PX.get]), trivial⟩ trivial)⟩
        · rintro _ _
          conv => whnf
          refine brk_i (fun h => absurd h (by simp)) (fun _ => ?_)
          conv => whnf
          refine CallA_v (la22) rfl rfl ?_
          conv => whnf
          exact RetA_view 0 rfl ⟨⟨rfl, rfl⟩, rfl⟩
    · conv => whnf
      refine CallA_v (la52 l) rfl rfl ?_
      conv => whnf
      cases hlv : lightsB l with
      | false =>
        conv => whnf
        refine CallA_v (la22) rfl rfl ?_
        conv => whnf
        exact RetA_view 0 rfl ⟨⟨rfl, rfl⟩, rfl⟩
      | true =>
        have hl0 : (lightsF l).2 = 0 := of_decide_eq_true hlv
        have hEn : entrE c l = 0 := by unfold entrE; rw [if_pos h0]; exact hl0
        have hEm : entrE m l = 0 := by unfold entrE; rw [if_pos hm]; exact hl0
        have hw := hwh hEn hEm
        have hl1 := which_len hEn
        have hl2 := which_len hEm
        conv => whnf
        refine CallA_v (la35 c l) rfl rfl ?_
        conv => whnf
        refine CallA_v (la35 m l) rfl rfl ?_
        conv => whnf
        rw [hEn, hEm]
        generalize whichV c l = w1 at hw hl1 ⊢
        generalize whichV m l = w2 at hw hl2 ⊢
        conv => whnf
        refine LoopA_i (T := tys) tysOk (by exact drawsB_spec mixed tysOk (by decide +kernel)) w2 (fun i (_ : Unit) => ⟨[(6, .d (.bool false)), (20, .d (intsD w1)), (21, .d (i64 0)), (22, .d (intsD w2)), (23, .d (i64 0)), (24, .d (i64 i))], [], st⟩) (fun i r _ => True) () (Wk.sub ⟨(by first | rfl | (simp only [List.length_map]; rfl) | simp [PX.get]), (by first | rfl | (simp only [List.length_map]; rfl) | simp [PX.get]), (by first | rfl | (simp only [List.length_map]; rfl) | simp [PX.get]), (by first | rfl | (simp only [List.length_map]; rfl) | simp [PX.get]), (by first | rfl | (simp only [List.length_map]; rfl) | simp [PX.get]), (by first | rfl | (simp only [List.length_map]; rfl) | simp [PX.get]), trivial⟩ trivial) trivial ?_ ?_
        · rintro i y r _ hy hlt hr _
          conv => whnf
          refine brk_i (fun _ => ?_) (fun h => absurd hlt (by have := of_decide_eq_false h; simp at this; omega))
          conv => whnf
          refine elemK_nat hy ?_
          conv => whnf
          refine CallA_v (ds := [intsD w1, i64 y]) (la53 w1 y (by omega)) rfl rfl ?_
          rw [decide_eq_true (hw y (List.mem_of_getElem? hy))]
          conv => whnf
          refine arith_in (wrap_i64 (by (try dsimp only); omega)) ?_
          conv => whnf
          exact ⟨(), trivial, (Wk.sub ⟨(by first | rfl | (simp only [List.length_map]; rfl) | simp [PX.get]), (by first | rfl | (simp only [List.length_map]; rfl) | simp [PX.get]), (by first | rfl | (simp only [List.length_map]; rfl) | simp [PX.get]), (by first | rfl | (simp only [List.length_map]; rfl) | simp [PX.get]), (by first | rfl | (simp only [List.length_map]; rfl) | simp [PX.get]), (by first | rfl | (simp only [List.length_map]; rfl) | simp [PX.get]), trivial⟩ trivial)⟩
        · rintro _ _
          conv => whnf
          refine brk_i (fun h => absurd h (by simp)) (fun _ => ?_)
          conv => whnf
          refine CallA_v (la22) rfl rfl ?_
          conv => whnf
          exact RetA_view 0 rfl ⟨⟨rfl, rfl⟩, rfl⟩
end Go.PX
