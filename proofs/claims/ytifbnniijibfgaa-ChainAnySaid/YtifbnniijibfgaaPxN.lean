import Derived.Test.YtifbnniijibfgaaPxM
import Derived.Test.YtifbnniijibfgaaPxG
set_option linter.all false
set_option maxRecDepth 10000
namespace Go.PX
open Go.Proofs

theorem outL_false : ∀ {l : List Span} {ts : List Int}, (∀ (i : Nat) (s : Span) (n : Int), l[i]? = some s → ts[i]? = some n → s.lo ≤ n ∧ n ≤ s.hi) → outL l ts = false
  | [], ts, _ => by cases ts <;> rfl
  | s :: l, [], _ => rfl
  | s :: l, n :: ts, h => by
    have h0 := h 0 s n rfl rfl
    simp only [outL, Bool.or_eq_false_iff, Bool.not_eq_false', inB_iff]
    exact ⟨h0, outL_false fun i s' n' h1 h2 => h (i + 1) s' n' (by simpa using h1) (by simpa using h2)⟩

/-- Any truth of a weather, by turns. -/
def anyT (c : Case) (w : Weather) (x : List Int) : Truth :=
  ⟨amongF w.depth (turnF x 0), amongF w.wind (turnF x 1), amongF w.current (turnF x 2), amongF w.swell (turnF x 3), amongF c.chain.hold (turnF x 4), (thickL c).mapIdx fun i s => amongF s (turnF x (5 + (i : Int)))⟩

theorem sound_le {c : Case} (hR : CaseR c) (hs : soundE c = 0) : ∀ s ∈ thickL c, s.lo ≤ s.hi := by
  intro s h
  obtain ⟨x, hx, rfl⟩ := List.mem_map.1 h
  exact range_le ((hR.look hx).shot.new.2.2.2.2) ((soundL_zero hs).2 x hx |> fun h => h)

theorem any_ok {c : Case} (hR : CaseR c) (hs : soundE c = 0) {w : Weather} (hw : w ∈ c.weathers) {x : List Int} (hx : wordOk x) :
    (anyT c w x).thick.length = c.chain.shots.length ∧ outL (bandsL c w) (valsL (anyT c w x)) = false ∧ Calmer (anyT c w x) (worstT c (thickL c) w) := by
  obtain ⟨hd, hwi, hcu, hsw⟩ := hR.weathers w hw
  have hh := hR.hold
  have h0 := amongF_in (s := w.depth) (by omega) (turnF_in hx 0).1
  have h1 := amongF_in (s := w.wind) (by omega) (turnF_in hx 1).1
  have h2 := amongF_in (s := w.current) (by omega) (turnF_in hx 2).1
  have h3 := amongF_in (s := w.swell) (by omega) (turnF_in hx 3).1
  have h4 := amongF_in (s := c.chain.hold) (by omega) (turnF_in hx 4).1
  refine ⟨by simp [anyT, thickL], ?_, ?_⟩
  · simp only [bandsL, valsL, anyT, List.cons_append, List.nil_append, outL, Bool.or_eq_false_iff, Bool.not_eq_false', inB_iff]
    refine ⟨h0, h1, h2, h3, h4, outL_false fun i s n hi hn => ?_⟩
    rw [List.getElem?_mapIdx, hi] at hn
    simp only [Option.map_some, Option.some.injEq] at hn
    subst hn
    exact amongF_in (sound_le hR hs s (List.mem_of_getElem? hi)) (turnF_in hx _).1
  · refine ⟨?_, ?_, ?_, ?_, ?_, by simp [anyT, worstT], fun k a b ha hb => ?_⟩
    · simp only [worstT, anyT]; omega
    · simp only [worstT, anyT]; omega
    · simp only [worstT, anyT]; omega
    · simp only [worstT, anyT]; omega
    · simp only [worstT, anyT]; omega
    · simp only [anyT, List.getElem?_mapIdx] at ha
      simp only [worstT, List.getElem?_map] at hb
      cases hk : (thickL c)[k]? with
      | none => rw [hk] at hb; cases hb
      | some s =>
        rw [hk] at ha hb
        simp only [Option.map_some, Option.some.injEq] at ha hb
        subst ha hb
        have hm := List.mem_of_getElem? hk
        have := (moor_ok hR).th s hm
        have := amongF_in (sound_le hR hs s hm) (turnF_in hx (5 + (k : Int))).1
        omega

theorem worst_in {c : Case} (hR : CaseR c) (hs : soundE c = 0) {w : Weather} (hw : w ∈ c.weathers) :
    (worstT c (thickL c) w).thick.length = c.chain.shots.length ∧ outL (bandsL c w) (valsL (worstT c (thickL c) w)) = false := by
  obtain ⟨hd, hwi, hcu, hsw⟩ := hR.weathers w hw
  have hh := hR.hold
  refine ⟨by simp [worstT, thickL], ?_⟩
  simp only [bandsL, valsL, worstT, List.cons_append, List.nil_append, outL, Bool.or_eq_false_iff, Bool.not_eq_false', inB_iff]
  refine ⟨by omega, by omega, by omega, by omega, by omega, outL_false fun i s n hi hn => ?_⟩
  rw [List.getElem?_map, hi] at hn
  simp only [Option.map_some, Option.some.injEq] at hn
  subst hn
  exact ⟨Int.le_refl _, sound_le hR hs s (List.mem_of_getElem? hi)⟩

theorem breakL_zero {c : Case} {th : List Span} {out : Int} : ∀ {l : List Weather} {i : Int}, (breakL c th out l i).1 = 0 → breakL c th out l i = (0, 0, 0)
  | [], i, _ => rfl
  | w :: r, i, h => by
    simp only [breakL] at h ⊢
    by_cases h1 : (judgeW c th out w).1 = 0
    · rw [if_neg (by simp [h1])] at h ⊢
      exact breakL_zero h
    · rw [if_pos h1] at h
      exact absurd h h1

/-- The error of a truth of a weather. -/
def truthE (c : Case) (w : Weather) (t : Truth) : Int := if t.thick.length = c.chain.shots.length then (if outL (bandsL c w) (valsL t) then 7 else 0) else 3

theorem goE_bad {c : Case} (h : (checkC c).2.2 = 0) {i : Nat} {w : Weather} (hw : c.weathers[i]? = some w) {out : Int} (ho : 1 ≤ out ∧ out ≤ linksF c.chain.shots) : goE c out (badAt c i) = 0 := by
  have := (List.getElem?_eq_some_iff.1 hw).1
  have hb : badAt c i = false := by
    unfold badAt
    rw [inB_iff.2 (by omega)]; rfl
  rw [hb]
  unfold goE
  rw [if_neg (by simp [h]), if_neg (by simp), if_pos (inB_iff.2 ho)]

theorem in_ok {c : Case} (h : (checkC c).2.2 = 0) (hs : soundE c = 0) {i : Nat} {w : Weather} (hw : c.weathers[i]? = some w) {out : Int} (ho : 1 ≤ out ∧ out ≤ linksF c.chain.shots) {t : Truth} (hl : t.thick.length = c.chain.shots.length)
    (hb : outL (bandsL c w) (valsL t) = false) : inE c i out t = (judgeF c t out, 0) := by
  unfold inE
  rw [goE_bad h hw ho, if_pos (by simp [lookE, hs]), if_pos hl]
  simp [hw, hb]

theorem show_ok {c : Case} (h : (checkC c).2.2 = 0) (hs : soundE c = 0) {i : Nat} {w : Weather} (hw : c.weathers[i]? = some w) {out : Int} (ho : 1 ≤ out ∧ out ≤ linksF c.chain.shots) :
    showE c i out = ((worstT c (thickL c) w).d, judgeW c (thickL c) out w, 0) := by
  unfold showE
  rw [goE_bad h hw ho, if_pos (by simp [lookE, hs])]
  simp [hw]

theorem why_err {c : Case} (h : soundAll c ≠ 0) : (whyE c 1).2 = soundAll c := by
  unfold whyE
  unfold soundAll at h ⊢
  by_cases h0 : (checkC c).2.2 = 0
  · have hl := links_ok (case_ok h0)
    have hg : goE c 1 false = 0 := by
      unfold goE
      rw [if_neg (by simp [h0]), if_neg (by simp), if_pos (inB_iff.2 (by omega))]
    rw [h0] at h
    rw [hg, h0, if_neg h]
  · have hg : goE c 1 false = (checkC c).2.2 := by
      unfold goE
      rw [if_pos h0]
    rw [hg, if_neg h]
end Go.PX

namespace Go.PX
open Go.Proofs

theorem CaseR.rng {c : Case} (h : CaseR c) {s : Shot} (hs : s ∈ c.chain.shots) : FnV Try.prog 60 [s.d, i64 c.chain.err, gaugesD s.gauges, i64 c.day] (.tup [(rangeS s c.chain.err s.gauges c.day).1.d, .bool (rangeS s c.chain.err s.gauges c.day).2]) := by
  have hk := h.look hs
  have := h.day
  exact fun {σ} => fn60 s c.chain.err s.gauges c.day hk.off hk.shot hk.gok hk.len (by omega)

theorem fn36 (c : Case) (w : Weather) (t : Truth) (hR : CaseR c) : FnV Try.prog 36 [c.d, w.d, t.d] (i64 (truthE c w t)) := by
  refine fnV_of mixed tysOk Try.func36 rfl (ft := ft36) 3 (by decide +kernel) (by rfl) fun {σ} Y st => ?_
  conv => whnf
  by_cases hl : t.thick.length = c.chain.shots.length
  · have hE : truthE c w t = if outL (bandsL c w) (valsL t) then 7 else 0 := by unfold truthE; rw [if_pos hl]
    have hlen := hR.lens
    rw [hE]
    simp only [bandsL, valsL, List.cons_append, List.nil_append, outL]
    refine brk_i (fun h => absurd h (by simp [hl])) (fun _ => ?_)
    conv => whnf
    cases h1 : inB t.depth w.depth.lo w.depth.hi with
    | false =>
      repeat' (first
        | (refine CallA_v (fn55 _ _ _) rfl rfl ?_; conv => whnf)
        | (refine CallA_view (fn55 _ _ _) rfl 1 rfl ?_; conv => whnf)
        | (refine DrawCall_v (fn55 _ _ _) rfl rfl ?_; conv => whnf)
        | (refine DrawCall_view (fn55 _ _ _) rfl 1 rfl ?_; conv => whnf)
        | (rw [h1]; conv => whnf)
        | (refine arith_in (wrap_i64 (by (try dsimp only); omega)) ?_; conv => whnf)
        | (refine elemK_nat (by assumption) ?_; conv => whnf)
        | (refine ownK_whole (by first | rfl | assumption | (simp [Els.len]; done) | (simp [Els.len]; omega)) ?_; conv => whnf)
        | (refine chk_i (by first | (simp [Els.len, Els.cons, V.cells]; done) | (simp [Els.len, Els.cons, V.cells]; omega)) ?_; conv => whnf)
        | fail)
      exact RetA_view 0 rfl ⟨⟨rfl, rfl⟩, rfl⟩
    | true =>
    cases h2 : inB t.wind w.wind.lo w.wind.hi with
    | false =>
      repeat' (first
        | (refine CallA_v (fn55 _ _ _) rfl rfl ?_; conv => whnf)
        | (refine CallA_view (fn55 _ _ _) rfl 1 rfl ?_; conv => whnf)
        | (refine DrawCall_v (fn55 _ _ _) rfl rfl ?_; conv => whnf)
        | (refine DrawCall_view (fn55 _ _ _) rfl 1 rfl ?_; conv => whnf)
        | (rw [h1]; conv => whnf)
        | (rw [h2]; conv => whnf)
        | (refine arith_in (wrap_i64 (by (try dsimp only); omega)) ?_; conv => whnf)
        | (refine elemK_nat (by assumption) ?_; conv => whnf)
        | (refine ownK_whole (by first | rfl | assumption | (simp [Els.len]; done) | (simp [Els.len]; omega)) ?_; conv => whnf)
        | (refine chk_i (by first | (simp [Els.len, Els.cons, V.cells]; done) | (simp [Els.len, Els.cons, V.cells]; omega)) ?_; conv => whnf)
        | fail)
      exact RetA_view 0 rfl ⟨⟨rfl, rfl⟩, rfl⟩
    | true =>
    cases h3 : inB t.current w.current.lo w.current.hi with
    | false =>
      repeat' (first
        | (refine CallA_v (fn55 _ _ _) rfl rfl ?_; conv => whnf)
        | (refine CallA_view (fn55 _ _ _) rfl 1 rfl ?_; conv => whnf)
        | (refine DrawCall_v (fn55 _ _ _) rfl rfl ?_; conv => whnf)
        | (refine DrawCall_view (fn55 _ _ _) rfl 1 rfl ?_; conv => whnf)
        | (rw [h1]; conv => whnf)
        | (rw [h2]; conv => whnf)
        | (rw [h3]; conv => whnf)
        | (refine arith_in (wrap_i64 (by (try dsimp only); omega)) ?_; conv => whnf)
        | (refine elemK_nat (by assumption) ?_; conv => whnf)
        | (refine ownK_whole (by first | rfl | assumption | (simp [Els.len]; done) | (simp [Els.len]; omega)) ?_; conv => whnf)
        | (refine chk_i (by first | (simp [Els.len, Els.cons, V.cells]; done) | (simp [Els.len, Els.cons, V.cells]; omega)) ?_; conv => whnf)
        | fail)
      exact RetA_view 0 rfl ⟨⟨rfl, rfl⟩, rfl⟩
    | true =>
    cases h4 : inB t.swell w.swell.lo w.swell.hi with
    | false =>
      repeat' (first
        | (refine CallA_v (fn55 _ _ _) rfl rfl ?_; conv => whnf)
        | (refine CallA_view (fn55 _ _ _) rfl 1 rfl ?_; conv => whnf)
        | (refine DrawCall_v (fn55 _ _ _) rfl rfl ?_; conv => whnf)
        | (refine DrawCall_view (fn55 _ _ _) rfl 1 rfl ?_; conv => whnf)
        | (rw [h1]; conv => whnf)
        | (rw [h2]; conv => whnf)
        | (rw [h3]; conv => whnf)
        | (rw [h4]; conv => whnf)
        | (refine arith_in (wrap_i64 (by (try dsimp only); omega)) ?_; conv => whnf)
        | (refine elemK_nat (by assumption) ?_; conv => whnf)
        | (refine ownK_whole (by first | rfl | assumption | (simp [Els.len]; done) | (simp [Els.len]; omega)) ?_; conv => whnf)
        | (refine chk_i (by first | (simp [Els.len, Els.cons, V.cells]; done) | (simp [Els.len, Els.cons, V.cells]; omega)) ?_; conv => whnf)
        | fail)
      exact RetA_view 0 rfl ⟨⟨rfl, rfl⟩, rfl⟩
    | true =>
    cases h5 : inB t.hold c.chain.hold.lo c.chain.hold.hi with
    | false =>
      repeat' (first
        | (refine CallA_v (fn55 _ _ _) rfl rfl ?_; conv => whnf)
        | (refine CallA_view (fn55 _ _ _) rfl 1 rfl ?_; conv => whnf)
        | (refine DrawCall_v (fn55 _ _ _) rfl rfl ?_; conv => whnf)
        | (refine DrawCall_view (fn55 _ _ _) rfl 1 rfl ?_; conv => whnf)
        | (rw [h1]; conv => whnf)
        | (rw [h2]; conv => whnf)
        | (rw [h3]; conv => whnf)
        | (rw [h4]; conv => whnf)
        | (rw [h5]; conv => whnf)
        | (refine arith_in (wrap_i64 (by (try dsimp only); omega)) ?_; conv => whnf)
        | (refine elemK_nat (by assumption) ?_; conv => whnf)
        | (refine ownK_whole (by first | rfl | assumption | (simp [Els.len]; done) | (simp [Els.len]; omega)) ?_; conv => whnf)
        | (refine chk_i (by first | (simp [Els.len, Els.cons, V.cells]; done) | (simp [Els.len, Els.cons, V.cells]; omega)) ?_; conv => whnf)
        | fail)
      exact RetA_view 0 rfl ⟨⟨rfl, rfl⟩, rfl⟩
    | true =>
      repeat' (first
        | (refine CallA_v (fn55 _ _ _) rfl rfl ?_; conv => whnf)
        | (refine CallA_view (fn55 _ _ _) rfl 1 rfl ?_; conv => whnf)
        | (refine DrawCall_v (fn55 _ _ _) rfl rfl ?_; conv => whnf)
        | (refine DrawCall_view (fn55 _ _ _) rfl 1 rfl ?_; conv => whnf)
        | (rw [h1]; conv => whnf)
        | (rw [h2]; conv => whnf)
        | (rw [h3]; conv => whnf)
        | (rw [h4]; conv => whnf)
        | (rw [h5]; conv => whnf)
        | (refine arith_in (wrap_i64 (by (try dsimp only); omega)) ?_; conv => whnf)
        | (refine elemK_nat (by assumption) ?_; conv => whnf)
        | (refine ownK_whole (by first | rfl | assumption | (simp [Els.len]; done) | (simp [Els.len]; omega)) ?_; conv => whnf)
        | (refine chk_i (by first | (simp [Els.len, Els.cons, V.cells]; done) | (simp [Els.len, Els.cons, V.cells]; omega)) ?_; conv => whnf)
        | fail)
      simp only [Bool.not_true, Bool.false_or]
      refine LoopA_i (T := tys) tysOk (by exact drawsB_spec mixed tysOk (by decide +kernel)) t.thick (fun i (_ : Unit) => ⟨[(3, .ptr 3 0), (5, .ptr 5 0), (6, .d (i64 0)), (7, .d (i64 i))], [(3, .box (.dd c.cells)), (5, .box (.dd t.cells))], st⟩)
        (fun i r _ => outL (thickL c) t.thick = outL ((thickL c).drop i) r) ()
        (Wk.sub ⟨rfl, rfl, rfl, rfl, trivial⟩ ⟨rfl, rfl, trivial⟩) rfl ?_ ?_
      · intro i x r _ hx hi hr he
        have hi2 : i < c.chain.shots.length := by omega
        obtain ⟨s, hsx⟩ : ∃ s, c.chain.shots[i]? = some s := ⟨_, List.getElem?_eq_getElem hi2⟩
        have htx := thick_get hsx
        have hm := List.mem_of_getElem? hsx
        have hti : i < (thickL c).length := by simp [thickL]; exact hi2
        rw [List.drop_eq_getElem_cons hti, outL] at he
        rw [List.getElem?_eq_getElem hti] at htx
        rw [Option.some.inj htx] at he
        conv => whnf
        refine brk_i (fun _ => ?_) (fun h => absurd hi (by simpa using h))
        conv => whnf
        refine elemK_nat hsx ?_
        conv => whnf
        refine elemK_nat hsx ?_
        conv => whnf
        refine DrawCall_v (ds := [s.d, i64 c.chain.err, gaugesD s.gauges, i64 c.day]) (hR.rng hm) rfl rfl ?_
        conv => whnf
        generalize (rangeS s c.chain.err s.gauges c.day).1 = b at *
        refine elemK_nat hx ?_
        conv => whnf
        cases h6 : inB x b.lo b.hi with
        | false =>
          simp only [h6, Bool.not_false, Bool.true_or] at he
          repeat' (first
            | (refine CallA_v (fn55 _ _ _) rfl rfl ?_; conv => whnf)
            | (refine CallA_view (fn55 _ _ _) rfl 1 rfl ?_; conv => whnf)
            | (refine DrawCall_v (fn55 _ _ _) rfl rfl ?_; conv => whnf)
            | (refine DrawCall_view (fn55 _ _ _) rfl 1 rfl ?_; conv => whnf)
            | (rw [h6]; conv => whnf)
            | (refine arith_in (wrap_i64 (by (try dsimp only); omega)) ?_; conv => whnf)
            | (refine elemK_nat (by assumption) ?_; conv => whnf)
            | (refine ownK_whole (by first | rfl | assumption | (simp [Els.len]; done) | (simp [Els.len]; omega)) ?_; conv => whnf)
            | (refine chk_i (by first | (simp [Els.len, Els.cons, V.cells]; done) | (simp [Els.len, Els.cons, V.cells]; omega)) ?_; conv => whnf)
            | fail)
          rw [if_pos he]
          exact RetA_view 0 rfl ⟨⟨rfl, rfl⟩, rfl⟩
        | true =>
          simp only [h6, Bool.not_true, Bool.false_or] at he
          repeat' (first
            | (refine CallA_v (fn55 _ _ _) rfl rfl ?_; conv => whnf)
            | (refine CallA_view (fn55 _ _ _) rfl 1 rfl ?_; conv => whnf)
            | (refine DrawCall_v (fn55 _ _ _) rfl rfl ?_; conv => whnf)
            | (refine DrawCall_view (fn55 _ _ _) rfl 1 rfl ?_; conv => whnf)
            | (rw [h6]; conv => whnf)
            | (refine arith_in (wrap_i64 (by (try dsimp only); omega)) ?_; conv => whnf)
            | (refine elemK_nat (by assumption) ?_; conv => whnf)
            | (refine ownK_whole (by first | rfl | assumption | (simp [Els.len]; done) | (simp [Els.len]; omega)) ?_; conv => whnf)
            | (refine chk_i (by first | (simp [Els.len, Els.cons, V.cells]; done) | (simp [Els.len, Els.cons, V.cells]; omega)) ?_; conv => whnf)
            | fail)
          exact ⟨(), he, (Wk.sub ⟨rfl, rfl, rfl, rfl, trivial⟩ ⟨rfl, rfl, trivial⟩)⟩
      · intro _ he
        have he : outL (thickL c) t.thick = false := by rw [he]; cases (thickL c).drop t.thick.length <;> rfl
        rw [if_neg (by simp [he])]
        conv => whnf
        refine brk_i (fun h => absurd h (by simp)) (fun _ => ?_)
        conv => whnf
        exact RetA_view 0 rfl ⟨⟨rfl, rfl⟩, rfl⟩
  · have hE : truthE c w t = 3 := by unfold truthE; rw [if_neg hl]
    rw [hE]
    refine brk_i (fun _ => ?_) (fun h => absurd h (by simp; omega))
    conv => whnf
    exact RetA_view 0 rfl ⟨⟨rfl, rfl⟩, rfl⟩

def anyA (c : Case) (w : Weather) (x : List Int) : List D := [i64 (amongF w.depth (turnF x 0)), i64 (amongF w.wind (turnF x 1)), i64 (amongF w.current (turnF x 2)), i64 (amongF w.swell (turnF x 3)), i64 (amongF c.chain.hold (turnF x 4))]

theorem fn38 (c : Case) (w : Weather) (x : List Int) (hR : CaseR c) (hs : soundE c = 0) (hw : w ∈ c.weathers) (hx : wordOk x) : FnV Try.prog 38 [c.d, w.d, wordsD x] (anyT c w x).d := by
  refine fnV_of mixed tysOk Try.func38 rfl (ft := ft38) 3 (by decide +kernel) (by rfl) fun {σ} Y st => ?_
  conv => whnf
  obtain ⟨hd, hwi, hcu, hsw⟩ := hR.weathers w hw
  have hh := hR.hold
  have hlen := hR.lens
  repeat' (first
    | (refine CallA_v (fn44 x 0 hx (by omega)) rfl rfl ?_; conv => whnf)
    | (refine CallA_view (fn44 x 0 hx (by omega)) rfl 1 rfl ?_; conv => whnf)
    | (refine DrawCall_v (fn44 x 0 hx (by omega)) rfl rfl ?_; conv => whnf)
    | (refine DrawCall_view (fn44 x 0 hx (by omega)) rfl 1 rfl ?_; conv => whnf)
    | (refine CallA_v (fn43 w.depth (turnF x 0) (by omega) (turnF_in hx _).1) rfl rfl ?_; conv => whnf)
    | (refine CallA_view (fn43 w.depth (turnF x 0) (by omega) (turnF_in hx _).1) rfl 1 rfl ?_; conv => whnf)
    | (refine DrawCall_v (fn43 w.depth (turnF x 0) (by omega) (turnF_in hx _).1) rfl rfl ?_; conv => whnf)
    | (refine DrawCall_view (fn43 w.depth (turnF x 0) (by omega) (turnF_in hx _).1) rfl 1 rfl ?_; conv => whnf)
    | (refine CallA_v (fn44 x 1 hx (by omega)) rfl rfl ?_; conv => whnf)
    | (refine CallA_view (fn44 x 1 hx (by omega)) rfl 1 rfl ?_; conv => whnf)
    | (refine DrawCall_v (fn44 x 1 hx (by omega)) rfl rfl ?_; conv => whnf)
    | (refine DrawCall_view (fn44 x 1 hx (by omega)) rfl 1 rfl ?_; conv => whnf)
    | (refine CallA_v (fn43 w.wind (turnF x 1) (by omega) (turnF_in hx _).1) rfl rfl ?_; conv => whnf)
    | (refine CallA_view (fn43 w.wind (turnF x 1) (by omega) (turnF_in hx _).1) rfl 1 rfl ?_; conv => whnf)
    | (refine DrawCall_v (fn43 w.wind (turnF x 1) (by omega) (turnF_in hx _).1) rfl rfl ?_; conv => whnf)
    | (refine DrawCall_view (fn43 w.wind (turnF x 1) (by omega) (turnF_in hx _).1) rfl 1 rfl ?_; conv => whnf)
    | (refine CallA_v (fn44 x 2 hx (by omega)) rfl rfl ?_; conv => whnf)
    | (refine CallA_view (fn44 x 2 hx (by omega)) rfl 1 rfl ?_; conv => whnf)
    | (refine DrawCall_v (fn44 x 2 hx (by omega)) rfl rfl ?_; conv => whnf)
    | (refine DrawCall_view (fn44 x 2 hx (by omega)) rfl 1 rfl ?_; conv => whnf)
    | (refine CallA_v (fn43 w.current (turnF x 2) (by omega) (turnF_in hx _).1) rfl rfl ?_; conv => whnf)
    | (refine CallA_view (fn43 w.current (turnF x 2) (by omega) (turnF_in hx _).1) rfl 1 rfl ?_; conv => whnf)
    | (refine DrawCall_v (fn43 w.current (turnF x 2) (by omega) (turnF_in hx _).1) rfl rfl ?_; conv => whnf)
    | (refine DrawCall_view (fn43 w.current (turnF x 2) (by omega) (turnF_in hx _).1) rfl 1 rfl ?_; conv => whnf)
    | (refine CallA_v (fn44 x 3 hx (by omega)) rfl rfl ?_; conv => whnf)
    | (refine CallA_view (fn44 x 3 hx (by omega)) rfl 1 rfl ?_; conv => whnf)
    | (refine DrawCall_v (fn44 x 3 hx (by omega)) rfl rfl ?_; conv => whnf)
    | (refine DrawCall_view (fn44 x 3 hx (by omega)) rfl 1 rfl ?_; conv => whnf)
    | (refine CallA_v (fn43 w.swell (turnF x 3) (by omega) (turnF_in hx _).1) rfl rfl ?_; conv => whnf)
    | (refine CallA_view (fn43 w.swell (turnF x 3) (by omega) (turnF_in hx _).1) rfl 1 rfl ?_; conv => whnf)
    | (refine DrawCall_v (fn43 w.swell (turnF x 3) (by omega) (turnF_in hx _).1) rfl rfl ?_; conv => whnf)
    | (refine DrawCall_view (fn43 w.swell (turnF x 3) (by omega) (turnF_in hx _).1) rfl 1 rfl ?_; conv => whnf)
    | (refine CallA_v (fn44 x 4 hx (by omega)) rfl rfl ?_; conv => whnf)
    | (refine CallA_view (fn44 x 4 hx (by omega)) rfl 1 rfl ?_; conv => whnf)
    | (refine DrawCall_v (fn44 x 4 hx (by omega)) rfl rfl ?_; conv => whnf)
    | (refine DrawCall_view (fn44 x 4 hx (by omega)) rfl 1 rfl ?_; conv => whnf)
    | (refine CallA_v (fn43 c.chain.hold (turnF x 4) (by omega) (turnF_in hx _).1) rfl rfl ?_; conv => whnf)
    | (refine CallA_view (fn43 c.chain.hold (turnF x 4) (by omega) (turnF_in hx _).1) rfl 1 rfl ?_; conv => whnf)
    | (refine DrawCall_v (fn43 c.chain.hold (turnF x 4) (by omega) (turnF_in hx _).1) rfl rfl ?_; conv => whnf)
    | (refine DrawCall_view (fn43 c.chain.hold (turnF x 4) (by omega) (turnF_in hx _).1) rfl 1 rfl ?_; conv => whnf)
    | (refine arith_in (wrap_i64 (by (try dsimp only); omega)) ?_; conv => whnf)
    | (refine elemK_nat (by assumption) ?_; conv => whnf)
    | (refine ownK_whole (by first | rfl | assumption | (simp [Els.len]; done) | (simp [Els.len]; omega)) ?_; conv => whnf)
    | (refine chk_i (by first | (simp [Els.len, Els.cons, V.cells]; done) | (simp [Els.len, Els.cons, V.cells]; omega)) ?_; conv => whnf)
    | fail)
  refine LoopA_i (T := tys) tysOk (by exact drawsB_spec mixed tysOk (by decide +kernel)) c.chain.shots (fun i (g : List (List D) × Nat) => ⟨[(2, .d (wordsD x)), (3, .ptr 3 0), (6, .ptr 6 0), (7, .ptr 7 0), (8, .d (i64 i))],
      [(3, .box (.dd c.cells)), (6, .box (.dd [i64 0, i64 0, i64 0, i64 0, i64 0, .nils])), (7, .box (.vv (inj (anyA c w x) ++ [.sl 74 1 0 g.2]))), (74, .arr 1 (.dd g.1))], st⟩)
    (fun i r g => g.1 = (((thickL c).mapIdx fun i s => amongF s (turnF x (5 + (i : Int)))).take i).map (fun n => [i64 n]) ∧ i = g.2) ([], 0)
    ((Wk.bornAtD 7 74 1 (anyA c w x) [] rfl rfl rfl rfl rfl).trans (Wk.sub ⟨rfl, rfl, rfl, rfl, rfl, trivial⟩ ⟨rfl, rfl, rfl, rfl, trivial⟩)) ⟨rfl, rfl⟩ ?_ ?_
  · rintro i s r ⟨es, k⟩ hsx hi hr ⟨h1, h2⟩
    replace h1 : es = _ := h1
    replace h2 : i = k := h2
    subst h1 h2
    have hm := List.mem_of_getElem? hsx
    have htx := thick_get hsx
    have hbt := (moor_ok hR).th _ (List.mem_of_getElem? htx)
    have hle := sound_le hR hs _ (List.mem_of_getElem? htx)
    have hti : i < (thickL c).length := by simp [thickL]; exact hi
    conv => whnf
    refine brk_i (fun _ => ?_) (fun h => absurd hi (by simpa using h))
    conv => whnf
    refine elemK_nat hsx ?_
    conv => whnf
    refine CallA_v (ds := [s.d, i64 c.chain.err, gaugesD s.gauges, i64 c.day]) (hR.rng hm) rfl rfl ?_
    conv => whnf
    generalize (rangeS s c.chain.err s.gauges c.day).1 = b at *
    repeat' (first
      | (refine CallA_v (fn44 x (5 + (i : Int)) hx (by omega)) rfl rfl ?_; conv => whnf)
      | (refine CallA_view (fn44 x (5 + (i : Int)) hx (by omega)) rfl 1 rfl ?_; conv => whnf)
      | (refine DrawCall_v (fn44 x (5 + (i : Int)) hx (by omega)) rfl rfl ?_; conv => whnf)
      | (refine DrawCall_view (fn44 x (5 + (i : Int)) hx (by omega)) rfl 1 rfl ?_; conv => whnf)
      | (refine CallA_v (fn43 b (turnF x (5 + (i : Int))) (by omega) (turnF_in hx _).1) rfl rfl ?_; conv => whnf)
      | (refine CallA_view (fn43 b (turnF x (5 + (i : Int))) (by omega) (turnF_in hx _).1) rfl 1 rfl ?_; conv => whnf)
      | (refine DrawCall_v (fn43 b (turnF x (5 + (i : Int))) (by omega) (turnF_in hx _).1) rfl rfl ?_; conv => whnf)
      | (refine DrawCall_view (fn43 b (turnF x (5 + (i : Int))) (by omega) (turnF_in hx _).1) rfl 1 rfl ?_; conv => whnf)
      | (refine arith_in (wrap_i64 (by (try dsimp only); omega)) ?_; conv => whnf)
      | (refine elemK_nat (by assumption) ?_; conv => whnf)
      | (refine ownK_whole (by first | rfl | assumption | (simp [Els.len]; done) | (simp [Els.len]; omega)) ?_; conv => whnf)
      | (refine chk_i (by first | (simp [Els.len, Els.cons, V.cells]; done) | (simp [Els.len, Els.cons, V.cells]; omega)) ?_; conv => whnf)
      | fail)
    refine ⟨(_, _), ⟨?_, ?_⟩, (Wk.sub ⟨rfl, rfl, rfl, rfl, rfl, trivial⟩ ⟨rfl, rfl, rfl, rfl, trivial⟩)⟩
    · simp only [List.take_succ, List.map_append]
      simp [htx]
    · simp [Els.len]; omega
  · rintro ⟨es, k⟩ ⟨h1, h2⟩
    replace h1 : es = _ := h1
    replace h2 : _ = k := h2
    subst h1 h2
    conv => whnf
    refine brk_i (fun h => absurd h (by simp)) (fun _ => ?_)
    conv => whnf
    refine RetA_view 3 (ds := [(anyT c w x).d]) (viewL_cons (viewV_agg (viewL_app (a := anyA c w x) (viewL_cons (viewV_sl' rfl ?_ ?_) rfl))) rfl) ⟨⟨rfl, rfl⟩, rfl⟩
    · rw [List.take_of_length_le (by simp [thickL])]; rfl
    · simp [anyT, thickL]
end Go.PX

/- PX: a call by value whose arguments are frozen for good. -/
namespace Go.PX

def delL : List Nat → List Wr
  | [] => []
  | i :: r => .del i :: delL r

theorem applyWs_delL {σ : Type} : ∀ (l : List Nat) (st : St σ), applyWs st (delL l) = ⟨st.env, cutL st.heap l, st.s⟩
  | [], st => rfl
  | i :: r, st => by
    show applyWs (applyW st (.del i)) (delL r) = _
    rw [applyWs_delL r]; rfl

theorem applyWs_append {σ : Type} : ∀ (a b : List Wr) (st : St σ), applyWs st (a ++ b) = applyWs (applyWs st a) b
  | [], b, st => rfl
  | w :: a, b, st => applyWs_append a b (applyW st w)

section
variable {P : Program} {σ : Type}

/-- The objects of a part are frozen for good. -/
theorem Good.frzPart {cx : Cx σ} {r : Option Nat} {m : List Nat} {L : Loc} {F : Nat → Nat} {st : St σ} {a : Act} {w : World} (hg : Good cx r m L F st a w) {h : Heap} (hsub : SubT h st.heap) (n : Nat) :
    ∃ F1, Good cx r m L F1 (applyWs st (delL (keysOf h))) a w ∧ Tr F w F1 w ∧ ∀ args vals ds, viewL (objD h n) args = some ds → RepVL cx.yv L F w args vals → RepDL F1 w ds vals := by
  have hok : HeapOk cx L F h st.s w := (hg.sub (e := st.env) (h := h) (fun _ _ h => h) hsub).heap
  have tr := frzAll_tr hok
  have hF1C : ∀ b, cx.C st.s b → frzAll L F h w b = F b := fun b hb => frzAll_C hok hb
  have hF1o : ∀ id o, get st.heap id = some o → id ∉ keysOf h → Backed L id o → frzAll L F h w (L.ρ id) = F (L.ρ id) := by
    intro id o hi hn hb
    refine frzAll_other ?_
    rintro ⟨j, p, hj, hbj, hij⟩
    have := hg.heap.inj j id p o (hsub j p hj) hi hbj hb hij
    subst this
    exact hn (keysOf_mem hj)
  have hfr := frzAll_fresh hok
  have hobj := objD_t hok n
  generalize frzAll L F h w = F1 at tr hF1C hF1o hfr hobj
  rw [applyWs_delL]
  have hget : ∀ i o, get (cutL st.heap (keysOf h)) i = some o → i ∉ keysOf h ∧ get st.heap i = some o := by
    intro i o hi
    rw [get_cutL] at hi
    split at hi
    · cases hi
    · rename_i hn; exact ⟨hn, hi⟩
  refine ⟨F1, ⟨⟨cx.stable hg.heap.hg tr hfr fun b hb => ⟨rfl, hF1C b hb⟩, hg.heap.csz, hfr, ?_, ?_, ?_⟩, ?_, hg.dfr, hg.mks, hg.mnd, hg.lk, hg.pin, hg.tsz⟩, tr, fun args vals ds hv hr => viewL_t tr hobj args vals ds hv hr⟩
  · intro i o hi
    exact RepO.mono tr i o (fun _ _ => ⟨rfl, rfl⟩) ⟨rfl, rfl⟩ (fun _ => rfl) (hg.heap.obj i o (hget i o hi).2)
  · intro i o hi hb
    obtain ⟨hn, h0⟩ := hget i o hi
    rw [hF1o i o h0 hn hb]
    exact hg.heap.own i o h0 hb
  · intro i j o p hi hj hbi hbj he
    exact hg.heap.inj i j o p (hget i o hi).2 (hget j p hj).2 hbi hbj he
  · intro t v ht
    obtain ⟨x, hx, hr⟩ := hg.env t v ht
    exact ⟨x, hx, RepV.mono tr v x (fun _ _ => ⟨rfl, rfl⟩) hr⟩

/-- A call by value; what is handed over is data from then on. -/
theorem outCall_fz {f : FuncId} {ds : List D} {res : D} (hf : FnV P f ds res) (n : Nat) {e : Env} {h : Heap} {d : Option Nat} {args : List V} (hv : viewL (objD h n) args = some ds) (hd : Nat.ble (d.getD 0) 10000 = true) :
    OutCall P e h d f args (delL (keysOf h) ++ wset d (.d res)) := by
  have ho := outCall_v (P := P) hf (e := []) (h := []) (d := d) (args := inj ds) rfl hd
  refine ⟨ho.1, fun {σ} cx r m L F st a w vals he hh hg hdt hr => ?_⟩
  obtain ⟨F1, hg1, tr1, hvw⟩ := hg.frzPart hh n
  rw [applyWs_append]
  refine (ho.2 cx r m L F1 (applyWs st (delL (keysOf h))) a w vals (fun _ _ h => by cases h) (fun _ _ h => by cases h) hg1 hdt (RepVL.inj.2 (hvw _ _ _ hv hr))).mono ?_
  rintro en w' ⟨x, rfl, L', F', hg', tr'⟩
  exact ⟨x, rfl, L', F', hg', Tr.trans tr1 tr'⟩

theorem CallA_fz {Y : Hd σ} {f : FuncId} {ds : List D} {res : D} (hf : FnV P f ds res) (n : Nat) {e : Env} {h : Heap} {s : σ} {d : Option Nat} {args : List V} (ids : List Nat) (hv : viewL (objD (keepT ids h) n) args = some ds) (hd : Nat.ble (d.getD 0) 10000 = true)
    {K : St σ → Prop} (hk : applyK (delL (keysOf (keepT ids h)) ++ wset d (.d res)) e h fun e h => K ⟨e, h, s⟩) : CallA P Y ⟨e, h, s⟩ d f args K := by
  have ho := outCall_fz (P := P) hf n (e := e) (h := keepT ids h) (d := d) (args := args) hv hd
  refine CallA_out (ws := delL (keysOf (keepT ids h)) ++ wset d (.d res)) ⟨ho.1, fun {σ} cx r m L F st a w vals he hh hg hdt hr => ?_⟩ hk
  exact ho.2 cx r m L F st a w vals he (fun i o hi => hh i o (sub_keepT ids h i o hi)) hg hdt hr

theorem DrawCall_fz {f : FuncId} {ds : List D} {res : D} (hf : FnV P f ds res) (n : Nat) {e : Env} {h : Heap} {d : Option Nat} {args : List V} (hv : viewL (objD h n) args = some ds) (hd : Nat.ble (d.getD 0) 10000 = true)
    {K : List Wr → Prop} (hk : K (delL (keysOf h) ++ wset d (.d res))) : DrawCall P e h d f args K := ⟨_, hk, outCall_fz hf n hv hd⟩
end
end Go.PX

namespace Go.PX
open Go.Proofs

theorem word_cons {l : List Int} {n : Int} (hn : 0 ≤ n ∧ n ≤ 65535) (h : wordOk l) : wordOk (n :: l) := fun m hm => by
  rcases List.mem_cons.1 hm with rfl | hm
  · exact hn
  · exact h m hm

theorem fn8 (c : Case) (n : Int) (x : List Int) (hn : 0 ≤ n ∧ n ≤ 65535) (hx : wordOk x) (hxl : (1 + x.length) * 2 ≤ 140737488355328) : FnV Try.prog 8 [c.d, .int .u16 n, wordsD x] (.bool true) := by
  refine fnV_of mixed tysOk Try.func8 rfl (ft := ft8) 3 (by decide +kernel) (by rfl) fun {σ} Y st => ?_
  conv => whnf
  refine CallA_v (ds := [c.d]) (fn33 c) rfl rfl ?_
  conv => whnf
  by_cases he : soundAll c = 0
  · refine brk_i (fun h => absurd h (by simp [he])) (fun _ => ?_)
    have h' : lookE c (checkC c).2.2 = 0 := he
    obtain ⟨h0, hs⟩ := lookE_zero h'
    have hR := case_ok h0
    have hwl := hR.wlen
    have hl := links_ok hR
    have ht : 0 ≤ n.tmod (linksF c.chain.shots) ∧ n.tmod (linksF c.chain.shots) < linksF c.chain.shots := by
      rw [Int.tmod_eq_emod_of_nonneg hn.1]
      exact ⟨Int.emod_nonneg _ (by omega), Int.emod_lt_of_pos _ (by omega)⟩
    conv => whnf
    repeat' (first
      | (refine CallA_v (fn34 c.chain (by have := hR.lens; omega) (links_bd hR)) rfl rfl ?_; conv => whnf)
      | (refine CallA_view (fn34 c.chain (by have := hR.lens; omega) (links_bd hR)) rfl 1 rfl ?_; conv => whnf)
      | (refine DrawCall_v (fn34 c.chain (by have := hR.lens; omega) (links_bd hR)) rfl rfl ?_; conv => whnf)
      | (refine DrawCall_view (fn34 c.chain (by have := hR.lens; omega) (links_bd hR)) rfl 1 rfl ?_; conv => whnf)
      | (refine arith_in (wrap_i64 (by (try dsimp only); omega)) ?_; conv => whnf)
      | (refine elemK_nat (by assumption) ?_; conv => whnf)
      | (refine ownK_whole (by first | rfl | assumption | (simp [Els.len]; done) | (simp [Els.len]; omega)) ?_; conv => whnf)
      | (refine chk_i (by first | (simp [Els.len, Els.cons, V.cells]; done) | (simp [Els.len, Els.cons, V.cells]; omega)) ?_; conv => whnf)
      | fail)
    obtain ⟨a, ha⟩ : ∃ a, a = 1 + n.tmod (linksF c.chain.shots) := ⟨_, rfl⟩
    rw [← ha]
    have ho : 1 ≤ a ∧ a ≤ linksF c.chain.shots := by omega
    refine CallA_v (ds := [c.d, i64 a]) (fn25 c a) rfl rfl ?_
    rw [whyE_in hR he ho]
    by_cases hb0 : (breakF c (thickL c) a).1 = 0
    · have hbz : breakF c (thickL c) a = (0, 0, 0) := breakL_zero hb0
      rw [hbz]
      conv => whnf
      rw [decide_eq_false (show ¬ ((c.weathers.map Weather.cells).length : Int) ≤ 0 by simp only [List.length_map]; omega)]
      conv => whnf
      obtain ⟨kb, hkb⟩ : ∃ kb, kb = c.weathers.length := ⟨_, rfl⟩
      have hkl : kb ≤ c.weathers.length := by omega
      have hj : ∀ (j : Nat) (w' : Weather), j < kb → c.weathers[j]? = some w' → (judgeW c (thickL c) a w').1 = 0 := fun j w' _ hw' => break_zero.1 hb0 w' (List.mem_of_getElem? hw')
      rw [show (c.weathers.map Weather.cells).length = kb by simp [hkb]]
      refine LoopA_i (T := tys) tysOk (by exact drawsB_spec mixed tysOk (by decide +kernel)) (c.weathers.take kb) (fun i (_ : Unit) => ⟨[(2, .d (wordsD x)), (3, .ptr 3 0), (6, .d (.bool false)), (12, .d (i64 a)), (17, .d (i64 kb)), (24, .d (i64 i))], [(3, .box (.dd c.cells))], st⟩)
        (fun i r _ => True) () (Wk.sub ⟨rfl, rfl, rfl, rfl, rfl, rfl, trivial⟩ ⟨rfl, trivial⟩) trivial ?_ ?_
      · intro i w r _ hw hi hr _
        have hlt : (c.weathers.take kb).length = kb := by simp; omega
        rw [hlt] at hi hr
        have hw : c.weathers[i]? = some w := by rw [List.getElem?_take] at hw; simpa [hi] using hw
        have hm := List.mem_of_getElem? hw
        have hx' : wordOk (13 * (i : Int) :: x) := word_cons (by omega) hx
        obtain ⟨g1, g2, g3⟩ := any_ok hR hs hm hx'
        obtain ⟨hF, hbd⟩ := bands_ok hR hm g1 g2
        have hjz := hj i w hi hw
        have hz : judgeF c (anyT c w (13 * (i : Int) :: x)) a = (0, 0) := judge_mono hR (case_rows h0) g3 (by omega) hjz
        have hin := in_ok h0 hs hw ho g1 g2
        conv => whnf
        refine brk_i (fun _ => ?_) (fun h => absurd hi (by simpa using h))
        conv => whnf
        refine elemK_nat hw ?_
        conv => whnf
        repeat' (first
          | (refine arith_in (IntWalk.u16_in _ (by (try dsimp only); omega)) ?_; conv => whnf)
          | (refine arith_in (wrap_i64 (by (try dsimp only); omega)) ?_; conv => whnf)
          | (refine elemK_nat (by assumption) ?_; conv => whnf)
          | (refine ownK_whole (by first | rfl | assumption | (simp [Els.len]; done) | (simp [Els.len]; omega)) ?_; conv => whnf)
          | (refine chk_i (by first | (simp [Els.len, Els.cons, V.cells]; done) | (simp [Els.len, Els.cons, V.cells]; omega)) ?_; conv => whnf)
          | fail)
        refine chk_i (by
          show (lenAllD 1 (x.map fun n => [.int .u16 n]) && true) = true
          rw [lenAllD_map (fun x => ⟨rfl, rfl⟩)]; rfl) ?_
        conv => whnf
        refine chk_i (decide_eq_true (by simp [Els.len, Els.cons, V.cells]; omega)) ?_
        conv => whnf
        refine DrawCall_fz (ds := [c.d, w.d, wordsD (13 * (i : Int) :: x)]) (fn38 c w (13 * (i : Int) :: x) hR hs hm hx') 2 (viewL_cons rfl (viewL_cons rfl (viewL_cons (viewV_sl' (es' := (13 * (i : Int) :: x).map fun n => [.int .u16 n]) rfl (by simp [Els.app]) (by simp [Els.len]; omega)) rfl))) rfl ?_
        conv => whnf
        generalize anyT c w (13 * (i : Int) :: x) = t at *
        refine CallA_v (ds := [c.d, i64 i, i64 a, t.d]) (fn39 c i a t) rfl rfl ?_
        rw [hin, hz]
        conv => whnf
        refine CallA_v (ds := [c.d, i64 a, t.d]) (fn37 c t a hR hF (by omega) g1 hbd) rfl rfl ?_
        rw [hz]
        conv => whnf
        repeat' (first
          | (refine arith_in (wrap_i64 (by (try dsimp only); omega)) ?_; conv => whnf)
          | (refine elemK_nat (by assumption) ?_; conv => whnf)
          | (refine ownK_whole (by first | rfl | assumption | (simp [Els.len]; done) | (simp [Els.len]; omega)) ?_; conv => whnf)
          | (refine chk_i (by first | (simp [Els.len, Els.cons, V.cells]; done) | (simp [Els.len, Els.cons, V.cells]; omega)) ?_; conv => whnf)
          | fail)
        exact ⟨(), trivial, (Wk.sub ⟨rfl, rfl, rfl, rfl, rfl, rfl, trivial⟩ ⟨rfl, trivial⟩)⟩
      · intro _ _
        have hlt : (c.weathers.take kb).length = kb := by simp; omega
        rw [hlt]
        conv => whnf
        refine brk_i (fun h => absurd h (by simp)) (fun _ => ?_)
        conv => whnf
        refine CallA_v (fn22) rfl rfl ?_
        conv => whnf
        exact RetA_view 0 rfl ⟨⟨rfl, rfl⟩, rfl⟩
    · obtain ⟨kb, w, hw, hbk, hbn, hj⟩ := break_some (l := c.weathers) (i := 0) hb0
      have hbk : breakF c (thickL c) a = ((judgeW c (thickL c) a w).1, (0 : Int) + (kb : Nat), (judgeW c (thickL c) a w).2) := hbk
      have hkl : kb ≤ c.weathers.length := by have := (List.getElem?_eq_some_iff.1 hw).1; omega
      have hm := List.mem_of_getElem? hw
      have hsh := show_ok h0 hs hw ho
      obtain ⟨g1, g2⟩ := worst_in hR hs hm
      obtain ⟨hF, hbd⟩ := bands_ok hR hm g1 g2
      have htr : truthE c w (worstT c (thickL c) w) = 0 := by unfold truthE; rw [if_pos g1, g2]; rfl
      have hjd : judgeF c (worstT c (thickL c) w) a = judgeW c (thickL c) a w := rfl
      rw [hbk, Int.zero_add]
      generalize judgeW c (thickL c) a w = q at *
      generalize worstT c (thickL c) w = t at *
      conv => whnf
      rw [decide_eq_false (show ¬ ((c.weathers.map Weather.cells).length : Int) ≤ kb by have := (List.getElem?_eq_some_iff.1 hw).1; simp; omega)]
      conv => whnf
      rw [decide_eq_false hbn]
      conv => whnf
      refine CallA_v (ds := [c.d, i64 kb, i64 a]) (fn35 c kb a) rfl rfl ?_
      rw [hsh]
      conv => whnf
      rw [self_t]
      conv => whnf
      rw [self_t]
      conv => whnf
      refine elemK_nat hw ?_
      conv => whnf
      refine DrawCall_v (ds := [c.d, w.d, t.d]) (fn36 c w t hR) rfl rfl ?_
      rw [htr]
      conv => whnf
      refine CallA_v (ds := [c.d, i64 a, t.d]) (fn37 c t a hR hF (by omega) g1 hbd) rfl rfl ?_
      rw [hjd]
      conv => whnf
      rw [self_t]
      conv => whnf
      rw [self_t]
      conv => whnf
      refine LoopA_i (T := tys) tysOk (by exact drawsB_spec mixed tysOk (by decide +kernel)) (c.weathers.take kb) (fun i (_ : Unit) => ⟨[(2, .d (wordsD x)), (3, .ptr 3 0), (6, .d (.bool false)), (12, .d (i64 a)), (17, .d (i64 kb)), (24, .d (i64 i))], [(3, .box (.dd c.cells))], st⟩)
        (fun i r _ => True) () (Wk.sub ⟨rfl, rfl, rfl, rfl, rfl, rfl, trivial⟩ ⟨rfl, trivial⟩) trivial ?_ ?_
      · intro i w r _ hw hi hr _
        have hlt : (c.weathers.take kb).length = kb := by simp; omega
        rw [hlt] at hi hr
        have hw : c.weathers[i]? = some w := by rw [List.getElem?_take] at hw; simpa [hi] using hw
        have hm := List.mem_of_getElem? hw
        have hx' : wordOk (13 * (i : Int) :: x) := word_cons (by omega) hx
        obtain ⟨g1, g2, g3⟩ := any_ok hR hs hm hx'
        obtain ⟨hF, hbd⟩ := bands_ok hR hm g1 g2
        have hjz := hj i w hi hw
        have hz : judgeF c (anyT c w (13 * (i : Int) :: x)) a = (0, 0) := judge_mono hR (case_rows h0) g3 (by omega) hjz
        have hin := in_ok h0 hs hw ho g1 g2
        conv => whnf
        refine brk_i (fun _ => ?_) (fun h => absurd hi (by simpa using h))
        conv => whnf
        refine elemK_nat hw ?_
        conv => whnf
        repeat' (first
          | (refine arith_in (IntWalk.u16_in _ (by (try dsimp only); omega)) ?_; conv => whnf)
          | (refine arith_in (wrap_i64 (by (try dsimp only); omega)) ?_; conv => whnf)
          | (refine elemK_nat (by assumption) ?_; conv => whnf)
          | (refine ownK_whole (by first | rfl | assumption | (simp [Els.len]; done) | (simp [Els.len]; omega)) ?_; conv => whnf)
          | (refine chk_i (by first | (simp [Els.len, Els.cons, V.cells]; done) | (simp [Els.len, Els.cons, V.cells]; omega)) ?_; conv => whnf)
          | fail)
        refine chk_i (by
          show (lenAllD 1 (x.map fun n => [.int .u16 n]) && true) = true
          rw [lenAllD_map (fun x => ⟨rfl, rfl⟩)]; rfl) ?_
        conv => whnf
        refine chk_i (decide_eq_true (by simp [Els.len, Els.cons, V.cells]; omega)) ?_
        conv => whnf
        refine DrawCall_fz (ds := [c.d, w.d, wordsD (13 * (i : Int) :: x)]) (fn38 c w (13 * (i : Int) :: x) hR hs hm hx') 2 (viewL_cons rfl (viewL_cons rfl (viewL_cons (viewV_sl' (es' := (13 * (i : Int) :: x).map fun n => [.int .u16 n]) rfl (by simp [Els.app]) (by simp [Els.len]; omega)) rfl))) rfl ?_
        conv => whnf
        generalize anyT c w (13 * (i : Int) :: x) = t at *
        refine CallA_v (ds := [c.d, i64 i, i64 a, t.d]) (fn39 c i a t) rfl rfl ?_
        rw [hin, hz]
        conv => whnf
        refine CallA_v (ds := [c.d, i64 a, t.d]) (fn37 c t a hR hF (by omega) g1 hbd) rfl rfl ?_
        rw [hz]
        conv => whnf
        repeat' (first
          | (refine arith_in (wrap_i64 (by (try dsimp only); omega)) ?_; conv => whnf)
          | (refine elemK_nat (by assumption) ?_; conv => whnf)
          | (refine ownK_whole (by first | rfl | assumption | (simp [Els.len]; done) | (simp [Els.len]; omega)) ?_; conv => whnf)
          | (refine chk_i (by first | (simp [Els.len, Els.cons, V.cells]; done) | (simp [Els.len, Els.cons, V.cells]; omega)) ?_; conv => whnf)
          | fail)
        exact ⟨(), trivial, (Wk.sub ⟨rfl, rfl, rfl, rfl, rfl, rfl, trivial⟩ ⟨rfl, trivial⟩)⟩
      · intro _ _
        have hlt : (c.weathers.take kb).length = kb := by simp; omega
        rw [hlt]
        conv => whnf
        refine brk_i (fun h => absurd h (by simp)) (fun _ => ?_)
        conv => whnf
        refine CallA_v (fn22) rfl rfl ?_
        conv => whnf
        exact RetA_view 0 rfl ⟨⟨rfl, rfl⟩, rfl⟩
  · refine brk_i (fun _ => ?_) (fun h => absurd h (by simpa using he))
    conv => whnf
    refine CallA_v (ds := [c.d, i64 1]) (fn25 c 1) rfl rfl ?_
    rw [why_err he]
    conv => whnf
    rw [self_t]
    conv => whnf
    refine CallA_v (fn22) rfl rfl ?_
    conv => whnf
    exact RetA_view 0 rfl ⟨⟨rfl, rfl⟩, rfl⟩
end Go.PX
