import Derived.Test.YtifbnniijibfgaaPxM
import Derived.Test.YtifbnniijibfgaaPxG
set_option linter.all false
set_option maxRecDepth 10000
namespace Go.PX
open Go.Proofs

theorem outL_false : ∀ {l : List Span} {ts : List Int}, (∀ (i : Nat) (s : Span) (n : Int), l[i]? = some s → ts[i]? = some n → s.lo ≤ n ∧ n ≤ s.hi) → outL l ts = false
  | [], ts, _ => by cases ts <;> rfl
  | s :: l, [], _ => rfl
  | s :: l, n :: ts, h => by
    have h0 := h 0 s n rfl rfl
    simp only [outL, Bool.or_eq_false_iff, Bool.not_eq_false', inB_iff]
    exact ⟨h0, outL_false fun i s' n' h1 h2 => h (i + 1) s' n' (by simpa using h1) (by simpa using h2)⟩

/-- Any truth of a weather, by turns. -/
def anyT (c : Case) (w : Weather) (x : List Int) : Truth :=
  ⟨amongF w.depth (turnF x 0), amongF w.wind (turnF x 1), amongF w.current (turnF x 2), amongF w.swell (turnF x 3), amongF c.chain.hold (turnF x 4), (thickL c).mapIdx fun i s => amongF s (turnF x (5 + (i : Int)))⟩

theorem sound_le {c : Case} (hR : CaseR c) (hs : soundE c = 0) : ∀ s ∈ thickL c, s.lo ≤ s.hi := by
  intro s h
  obtain ⟨x, hx, rfl⟩ := List.mem_map.1 h
  exact range_le ((hR.look hx).shot.new.2.2.2.2) ((soundL_zero hs).2 x hx |> fun h => h)

theorem any_ok {c : Case} (hR : CaseR c) (hs : soundE c = 0) {w : Weather} (hw : w ∈ c.weathers) {x : List Int} (hx : wordOk x) :
    (anyT c w x).thick.length = c.chain.shots.length ∧ outL (bandsL c w) (valsL (anyT c w x)) = false ∧ Calmer (anyT c w x) (worstT c (thickL c) w) := by
  obtain ⟨hd, hwi, hcu, hsw⟩ := hR.weathers w hw
  have hh := hR.hold
  have h0 := amongF_in (s := w.depth) (by omega) (turnF_in hx 0).1
  have h1 := amongF_in (s := w.wind) (by omega) (turnF_in hx 1).1
  have h2 := amongF_in (s := w.current) (by omega) (turnF_in hx 2).1
  have h3 := amongF_in (s := w.swell) (by omega) (turnF_in hx 3).1
  have h4 := amongF_in (s := c.chain.hold) (by omega) (turnF_in hx 4).1
  refine ⟨by simp [anyT, thickL], ?_, ?_⟩
  · simp only [bandsL, valsL, anyT, List.cons_append, List.nil_append, outL, Bool.or_eq_false_iff, Bool.not_eq_false', inB_iff]
    refine ⟨h0, h1, h2, h3, h4, outL_false fun i s n hi hn => ?_⟩
    rw [List.getElem?_mapIdx, hi] at hn
    simp only [Option.map_some, Option.some.injEq] at hn
    subst hn
    exact amongF_in (sound_le hR hs s (List.mem_of_getElem? hi)) (turnF_in hx _).1
  · refine ⟨?_, ?_, ?_, ?_, ?_, by simp [anyT, worstT], fun k a b ha hb => ?_⟩
    · simp only [worstT, anyT]; omega
    · simp only [worstT, anyT]; omega
    · simp only [worstT, anyT]; omega
    · simp only [worstT, anyT]; omega
    · simp only [worstT, anyT]; omega
    · simp only [anyT, List.getElem?_mapIdx] at ha
      simp only [worstT, List.getElem?_map] at hb
      cases hk : (thickL c)[k]? with
      | none => rw [hk] at hb; cases hb
      | some s =>
        rw [hk] at ha hb
        simp only [Option.map_some, Option.some.injEq] at ha hb
        subst ha hb
        have hm := List.mem_of_getElem? hk
        have := (moor_ok hR).th s hm
        have := amongF_in (sound_le hR hs s hm) (turnF_in hx (5 + (k : Int))).1
        omega

theorem worst_in {c : Case} (hR : CaseR c) (hs : soundE c = 0) {w : Weather} (hw : w ∈ c.weathers) :
    (worstT c (thickL c) w).thick.length = c.chain.shots.length ∧ outL (bandsL c w) (valsL (worstT c (thickL c) w)) = false := by
  obtain ⟨hd, hwi, hcu, hsw⟩ := hR.weathers w hw
  have hh := hR.hold
  refine ⟨by simp [worstT, thickL], ?_⟩
  simp only [bandsL, valsL, worstT, List.cons_append, List.nil_append, outL, Bool.or_eq_false_iff, Bool.not_eq_false', inB_iff]
  refine ⟨by omega, by omega, by omega, by omega, by omega, outL_false fun i s n hi hn => ?_⟩
  rw [List.getElem?_map, hi] at hn
  simp only [Option.map_some, Option.some.injEq] at hn
  subst hn
  exact ⟨Int.le_refl _, sound_le hR hs s (List.mem_of_getElem? hi)⟩

theorem breakL_zero {c : Case} {th : List Span} {out : Int} : ∀ {l : List Weather} {i : Int}, (breakL c th out l i).1 = 0 → breakL c th out l i = (0, 0, 0)
  | [], i, _ => rfl
  | w :: r, i, h => by
    simp only [breakL] at h ⊢
    by_cases h1 : (judgeW c th out w).1 = 0
    · rw [if_neg (by simp [h1])] at h ⊢
      exact breakL_zero h
    · rw [if_pos h1] at h
      exact absurd h h1

/-- The error of a truth of a weather. -/
def truthE (c : Case) (w : Weather) (t : Truth) : Int := if t.thick.length = c.chain.shots.length then (if outL (bandsL c w) (valsL t) then 7 else 0) else 3

theorem goE_bad {c : Case} (h : (checkC c).2.2 = 0) {i : Nat} {w : Weather} (hw : c.weathers[i]? = some w) {out : Int} (ho : 1 ≤ out ∧ out ≤ linksF c.chain.shots) : goE c out (badAt c i) = 0 := by
  have := (List.getElem?_eq_some_iff.1 hw).1
  have hb : badAt c i = false := by
    unfold badAt
    rw [inB_iff.2 (by omega)]; rfl
  rw [hb]
  unfold goE
  rw [if_neg (by simp [h]), if_neg (by simp), if_pos (inB_iff.2 ho)]

theorem in_ok {c : Case} (h : (checkC c).2.2 = 0) (hs : soundE c = 0) {i : Nat} {w : Weather} (hw : c.weathers[i]? = some w) {out : Int} (ho : 1 ≤ out ∧ out ≤ linksF c.chain.shots) {t : Truth} (hl : t.thick.length = c.chain.shots.length)
    (hb : outL (bandsL c w) (valsL t) = false) : inE c i out t = (judgeF c t out, 0) := by
  unfold inE
  rw [goE_bad h hw ho, if_pos (by simp [lookE, hs]), if_pos hl]
  simp [hw, hb]

theorem show_ok {c : Case} (h : (checkC c).2.2 = 0) (hs : soundE c = 0) {i : Nat} {w : Weather} (hw : c.weathers[i]? = some w) {out : Int} (ho : 1 ≤ out ∧ out ≤ linksF c.chain.shots) :
    showE c i out = ((worstT c (thickL c) w).d, judgeW c (thickL c) out w, 0) := by
  unfold showE
  rw [goE_bad h hw ho, if_pos (by simp [lookE, hs])]
  simp [hw]

theorem why_err {c : Case} (h : soundAll c ≠ 0) : (whyE c 1).2 = soundAll c := by
  unfold whyE
  unfold soundAll at h ⊢
  by_cases h0 : (checkC c).2.2 = 0
  · have hl := links_ok (case_ok h0)
    have hg : goE c 1 false = 0 := by
      unfold goE
      rw [if_neg (by simp [h0]), if_neg (by simp), if_pos (inB_iff.2 (by omega))]
    rw [h0] at h
    rw [hg, h0, if_neg h]
  · have hg : goE c 1 false = (checkC c).2.2 := by
      unfold goE
      rw [if_pos h0]
    rw [hg, if_neg h]
end Go.PX

namespace Go.PX
open Go.Proofs

theorem CaseR.rng {c : Case} (h : CaseR c) {s : Shot} (hs : s ∈ c.chain.shots) : FnV Try.prog 60 [s.d, i64 c.chain.err, gaugesD s.gauges, i64 c.day] (.tup [(rangeS s c.chain.err s.gauges c.day).1.d, .bool (rangeS s c.chain.err s.gauges c.day).2]) := by
  have hk := h.look hs
  have := h.day
  exact fun {σ} => fn60 s c.chain.err s.gauges c.day hk.off hk.shot hk.gok hk.len (by omega)

theorem fn36 (c : Case) (w : Weather) (t : Truth) (hR : CaseR c) : FnV Try.prog 36 [c.d, w.d, t.d] (i64 (truthE c w t)) := by
  refine fnV_of mixed tysOk Try.func36 rfl (ft := ft36) 3 (by decide +kernel) (by rfl) fun {σ} Y st => ?_
  conv => whnf
  by_cases hl : t.thick.length = c.chain.shots.length
  · have hE : truthE c w t = if outL (bandsL c w) (valsL t) then 7 else 0 := by unfold truthE; rw [if_pos hl]
    have hlen := hR.lens
    rw [hE]
    simp only [bandsL, valsL, List.cons_append, List.nil_append, outL]
    refine brk_i (fun h => absurd h (by simp [hl])) (fun _ => ?_)
    conv => whnf
    cases h1 : inB t.depth w.depth.lo w.depth.hi with
    | false =>
      repeat' (first
        | (refine CallA_v (fn55 _ _ _) rfl rfl ?_; conv => whnf)
        | (refine CallA_view (fn55 _ _ _) rfl 1 rfl ?_; conv => whnf)
        | (refine DrawCall_v (fn55 _ _ _) rfl rfl ?_; conv => whnf)
        | (refine DrawCall_view (fn55 _ _ _) rfl 1 rfl ?_; conv => whnf)
        | (rw [h1]; conv => whnf)
        | (refine arith_in (wrap_i64 (by (try dsimp only); omega)) ?_; conv => whnf)
        | (refine elemK_nat (by assumption) ?_; conv => whnf)
        | (refine ownK_whole (by first | rfl | assumption | (simp [Els.len]; done) | (simp [Els.len]; omega)) ?_; conv => whnf)
        | (refine chk_i (by first | (simp [Els.len, Els.cons, V.cells]; done) | (simp [Els.len, Els.cons, V.cells]; omega)) ?_; conv => whnf)
        | fail)
      exact RetA_view 0 rfl ⟨⟨rfl, rfl⟩, rfl⟩
    | true =>
    cases h2 : inB t.wind w.wind.lo w.wind.hi with
    | false =>
      repeat' (first
        | (refine CallA_v (fn55 _ _ _) rfl rfl ?_; conv => whnf)
        | (refine CallA_view (fn55 _ _ _) rfl 1 rfl ?_; conv => whnf)
        | (refine DrawCall_v (fn55 _ _ _) rfl rfl ?_; conv => whnf)
        | (refine DrawCall_view (fn55 _ _ _) rfl 1 rfl ?_; conv => whnf)
        | (rw [h1]; conv => whnf)
        | (rw [h2]; conv => whnf)
        | (refine arith_in (wrap_i64 (by (try dsimp only); omega)) ?_; conv => whnf)
        | (refine elemK_nat (by assumption) ?_; conv => whnf)
        | (refine ownK_whole (by first | rfl | assumption | (simp [Els.len]; done) | (simp [Els.len]; omega)) ?_; conv => whnf)
        | (refine chk_i (by first | (simp [Els.len, Els.cons, V.cells]; done) | (simp [Els.len, Els.cons, V.cells]; omega)) ?_; conv => whnf)
        | fail)
      exact RetA_view 0 rfl ⟨⟨rfl, rfl⟩, rfl⟩
    | true =>
    cases h3 : inB t.current w.current.lo w.current.hi with
    | false =>
      repeat' (first
        | (refine CallA_v (fn55 _ _ _) rfl rfl ?_; conv => whnf)
        | (refine CallA_view (fn55 _ _ _) rfl 1 rfl ?_; conv => whnf)
        | (refine DrawCall_v (fn55 _ _ _) rfl rfl ?_; conv => whnf)
        | (refine DrawCall_view (fn55 _ _ _) rfl 1 rfl ?_; conv => whnf)
        | (rw [h1]; conv => whnf)
        | (rw [h2]; conv => whnf)
        | (rw [h3]; conv => whnf)
        | (refine arith_in (wrap_i64 (by (try dsimp only); omega)) ?_; conv => whnf)
        | (refine elemK_nat (by assumption) ?_; conv => whnf)
        | (refine ownK_whole (by first | rfl | assumption | (simp [Els.len]; done) | (simp [Els.len]; omega)) ?_; conv => whnf)
        | (refine chk_i (by first | (simp [Els.len, Els.cons, V.cells]; done) | (simp [Els.len, Els.cons, V.cells]; omega)) ?_; conv => whnf)
        | fail)
      exact RetA_view 0 rfl ⟨⟨rfl, rfl⟩, rfl⟩
    | true =>
    cases h4 : inB t.swell w.swell.lo w.swell.hi with
    | false =>
      repeat' (first
        | (refine CallA_v (fn55 _ _ _) rfl rfl ?_; conv => whnf)
        | (refine CallA_view (fn55 _ _ _) rfl 1 rfl ?_; conv => whnf)
        | (refine DrawCall_v (fn55 _ _ _) rfl rfl ?_; conv => whnf)
        | (refine DrawCall_view (fn55 _ _ _) rfl 1 rfl ?_; conv => whnf)
        | (rw [h1]; conv => whnf)
        | (rw [h2]; conv => whnf)
        | (rw [h3]; conv => whnf)
        | (rw [h4]; conv => whnf)
        | (refine arith_in (wrap_i64 (by (try dsimp only); omega)) ?_; conv => whnf)
        | (refine elemK_nat (by assumption) ?_; conv => whnf)
        | (refine ownK_whole (by first | rfl | assumption | (simp [Els.len]; done) | (simp [Els.len]; omega)) ?_; conv => whnf)
        | (refine chk_i (by first | (simp [Els.len, Els.cons, V.cells]; done) | (simp [Els.len, Els.cons, V.cells]; omega)) ?_; conv => whnf)
        | fail)
      exact RetA_view 0 rfl ⟨⟨rfl, rfl⟩, rfl⟩
    | true =>
    cases h5 : inB t.hold c.chain.hold.lo c.chain.hold.hi with
    | false =>
      repeat' (first
        | (refine CallA_v (fn55 _ _ _) rfl rfl ?_; conv => whnf)
        | (refine CallA_view (fn55 _ _ _) rfl 1 rfl ?_; conv => whnf)
        | (refine DrawCall_v (fn55 _ _ _) rfl rfl ?_; conv => whnf)
        | (refine DrawCall_view (fn55 _ _ _) rfl 1 rfl ?_; conv => whnf)
        | (rw [h1]; conv => whnf)
        | (rw [h2]; conv => whnf)
        | (rw [h3]; conv => whnf)
        | (rw [h4]; conv => whnf)
        | (rw [h5]; conv => whnf)
        | (refine arith_in (wrap_i64 (by (try dsimp only); omega)) ?_; conv => whnf)
        | (refine elemK_nat (by assumption) ?_; conv => whnf)
        | (refine ownK_whole (by first | rfl | assumption | (simp [Els.len]; done) | (simp [Els.len]; omega)) ?_; conv => whnf)
        | (refine chk_i (by first | (simp [Els.len, Els.cons, V.cells]; done) | (simp [Els.len, Els.cons, V.cells]; omega)) ?_; conv => whnf)
        | fail)
      exact RetA_view 0 rfl ⟨⟨rfl, rfl⟩, rfl⟩
    | true =>
      repeat' (first
        | (refine CallA_v (fn55 _ _ _) rfl rfl ?_; conv => whnf)
        | (refine CallA_view (fn55 _ _ _) rfl 1 rfl ?_; conv => whnf)
        | (refine DrawCall_v (fn55 _ _ _) rfl rfl ?_; conv => whnf)
        | (refine DrawCall_view (fn55 _ _ _) rfl 1 rfl ?_; conv => whnf)
        | (rw [h1]; conv => whnf)
        | (rw [h2]; conv => whnf)
        | (rw [h3]; conv => whnf)
        | (rw [h4]; conv => whnf)
        | (rw [h5]; conv => whnf)
        | (refine arith_in (wrap_i64 (by (try dsimp only); omega)) ?_; conv => whnf)
        | (refine elemK_nat (by assumption) ?_; conv => whnf)
        | (refine ownK_whole (by first | rfl | assumption | (simp [Els.len]; done) | (simp [Els.len]; omega)) ?_; conv => whnf)
        | (refine chk_i (by first | (simp [Els.len, Els.cons, V.cells]; done) | (simp [Els.len, Els.cons, V.cells]; omega)) ?_; conv => whnf)
        | fail)
      simp only [Bool.not_true, Bool.false_or]
      refine LoopA_i (T := tys) tysOk (by exact drawsB_spec mixed tysOk (by decide +kernel)) t.thick (fun i (_ : Unit) => ⟨[(3, .ptr 3 0), (5, .ptr 5 0), (6, .d (i64 0)), (7, .d (i64 i))], [(3, .box (.dd c.cells)), (5, .box (.dd t.cells))], st⟩)
        (fun i r _ => outL (thickL c) t.thick = outL ((thickL c).drop i) r) ()
        (Wk.sub ⟨rfl, rfl, rfl, rfl, trivial⟩ ⟨rfl, rfl, trivial⟩) rfl ?_ ?_
      · intro i x r _ hx hi hr he
        have hi2 : i < c.chain.shots.length := by omega
        obtain ⟨s, hsx⟩ : ∃ s, c.chain.shots[i]? = some s := ⟨_, List.getElem?_eq_getElem hi2⟩
        have htx := thick_get hsx
        have hm := List.mem_of_getElem? hsx
        have hti : i < (thickL c).length := by simp [thickL]; exact hi2
        rw [List.drop_eq_getElem_cons hti, outL] at he
        rw [List.getElem?_eq_getElem hti] at htx
        rw [Option.some.inj htx] at he
        conv => whnf
        refine brk_i (fun _ => ?_) (fun h => absurd hi (by simpa using h))
        conv => whnf
        refine elemK_nat hsx ?_
        conv => whnf
        refine elemK_nat hsx ?_
        conv => whnf
        refine DrawCall_v (ds := [s.d, i64 c.chain.err, gaugesD s.gauges, i64 c.day]) (hR.rng hm) rfl rfl ?_
        conv => whnf
        generalize (rangeS s c.chain.err s.gauges c.day).1 = b at *
        refine elemK_nat hx ?_
        conv => whnf
        cases h6 : inB x b.lo b.hi with
        | false =>
          simp only [h6, Bool.not_false, Bool.true_or] at he
          repeat' (first
            | (refine CallA_v (fn55 _ _ _) rfl rfl ?_; conv => whnf)
            | (refine CallA_view (fn55 _ _ _) rfl 1 rfl ?_; conv => whnf)
            | (refine DrawCall_v (fn55 _ _ _) rfl rfl ?_; conv => whnf)
            | (refine DrawCall_view (fn55 _ _ _) rfl 1 rfl ?_; conv => whnf)
            | (rw [h6]; conv => whnf)
            | (refine arith_in (wrap_i64 (by (try dsimp only); omega)) ?_; conv => whnf)
            | (refine elemK_nat (by assumption) ?_; conv => whnf)
            | (refine ownK_whole (by first | rfl | assumption | (simp [Els.len]; done) | (simp [Els.len]; omega)) ?_; conv => whnf)
            | (refine chk_i (by first | (simp [Els.len, Els.cons, V.cells]; done) | (simp [Els.len, Els.cons, V.cells]; omega)) ?_; conv => whnf)
            | fail)
          rw [if_pos he]
          exact RetA_view 0 rfl ⟨⟨rfl, rfl⟩, rfl⟩
        | true =>
          simp only [h6, Bool.not_true, Bool.false_or] at he
          repeat' (first
            | (refine CallA_v (fn55 _ _ _) rfl rfl ?_; conv => whnf)
            | (refine CallA_view (fn55 _ _ _) rfl 1 rfl ?_; conv => whnf)
            | (refine DrawCall_v (fn55 _ _ _) rfl rfl ?_; conv => whnf)
            | (refine DrawCall_view (fn55 _ _ _) rfl 1 rfl ?_; conv => whnf)
            | (rw [h6]; conv => whnf)
            | (refine arith_in (wrap_i64 (by (try dsimp only); omega)) ?_; conv => whnf)
            | (refine elemK_nat (by assumption) ?_; conv => whnf)
            | (refine ownK_whole (by first | rfl | assumption | (simp [Els.len]; done) | (simp [Els.len]; omega)) ?_; conv => whnf)
            | (refine chk_i (by first | (simp [Els.len, Els.cons, V.cells]; done) | (simp [Els.len, Els.cons, V.cells]; omega)) ?_; conv => whnf)
            | fail)
          exact ⟨(), he, (Wk.sub ⟨rfl, rfl, rfl, rfl, trivial⟩ ⟨rfl, rfl, trivial⟩)⟩
      · intro _ he
        have he : outL (thickL c) t.thick = false := by rw [he]; cases (thickL c).drop t.thick.length <;> rfl
        rw [if_neg (by simp [he])]
        conv => whnf
        refine brk_i (fun h => absurd h (by simp)) (fun _ => ?_)
        conv => whnf
        exact RetA_view 0 rfl ⟨⟨rfl, rfl⟩, rfl⟩
  · have hE : truthE c w t = 3 := by unfold truthE; rw [if_neg hl]
    rw [hE]
    refine brk_i (fun _ => ?_) (fun h => absurd h (by simp; omega))
    conv => whnf
    exact RetA_view 0 rfl ⟨⟨rfl, rfl⟩, rfl⟩

def anyA (c : Case) (w : Weather) (x : List Int) : List D := [i64 (amongF w.depth (turnF x 0)), i64 (amongF w.wind (turnF x 1)), i64 (amongF w.current (turnF x 2)), i64 (amongF w.swell (turnF x 3)), i64 (amongF c.chain.hold (turnF x 4))]

theorem fn38 (c : Case) (w : Weather) (x : List Int) (hR : CaseR c) (hs : soundE c = 0) (hw : w ∈ c.weathers) (hx : wordOk x) : FnV Try.prog 38 [c.d, w.d, wordsD x] (anyT c w x).d := by
  refine fnV_of mixed tysOk Try.func38 rfl (ft := ft38) 3 (by decide +kernel) (by rfl) fun {σ} Y st => ?_
  conv => whnf
  obtain ⟨hd, hwi, hcu, hsw⟩ := hR.weathers w hw
  have hh := hR.hold
  have hlen := hR.lens
  repeat' (first
    | (refine CallA_v (fn44 x 0 hx (by omega)) rfl rfl ?_; conv => whnf)
    | (refine CallA_view (fn44 x 0 hx (by omega)) rfl 1 rfl ?_; conv => whnf)
    | (refine DrawCall_v (fn44 x 0 hx (by omega)) rfl rfl ?_; conv => whnf)
    | (refine DrawCall_view (fn44 x 0 hx (by omega)) rfl 1 rfl ?_; conv => whnf)
    | (refine CallA_v (fn43 w.depth (turnF x 0) (by omega) (turnF_in hx _).1) rfl rfl ?_; conv => whnf)
    | (refine CallA_view (fn43 w.depth (turnF x 0) (by omega) (turnF_in hx _).1) rfl 1 rfl ?_; conv => whnf)
    | (refine DrawCall_v (fn43 w.depth (turnF x 0) (by omega) (turnF_in hx _).1) rfl rfl ?_; conv => whnf)
    | (refine DrawCall_view (fn43 w.depth (turnF x 0) (by omega) (turnF_in hx _).1) rfl 1 rfl ?_; conv => whnf)
    | (refine CallA_v (fn44 x 1 hx (by omega)) rfl rfl ?_; conv => whnf)
    | (refine CallA_view (fn44 x 1 hx (by omega)) rfl 1 rfl ?_; conv => whnf)
    | (refine DrawCall_v (fn44 x 1 hx (by omega)) rfl rfl ?_; conv => whnf)
    | (refine DrawCall_view (fn44 x 1 hx (by omega)) rfl 1 rfl ?_; conv => whnf)
    | (refine CallA_v (fn43 w.wind (turnF x 1) (by omega) (turnF_in hx _).1) rfl rfl ?_; conv => whnf)
    | (refine CallA_view (fn43 w.wind (turnF x 1) (by omega) (turnF_in hx _).1) rfl 1 rfl ?_; conv => whnf)
    | (refine DrawCall_v (fn43 w.wind (turnF x 1) (by omega) (turnF_in hx _).1) rfl rfl ?_; conv => whnf)
    | (refine DrawCall_view (fn43 w.wind (turnF x 1) (by omega) (turnF_in hx _).1) rfl 1 rfl ?_; conv => whnf)
    | (refine CallA_v (fn44 x 2 hx (by omega)) rfl rfl ?_; conv => whnf)
    | (refine CallA_view (fn44 x 2 hx (by omega)) rfl 1 rfl ?_; conv => whnf)
    | (refine DrawCall_v (fn44 x 2 hx (by omega)) rfl rfl ?_; conv => whnf)
    | (refine DrawCall_view (fn44 x 2 hx (by omega)) rfl 1 rfl ?_; conv => whnf)
    | (refine CallA_v (fn43 w.current (turnF x 2) (by omega) (turnF_in hx _).1) rfl rfl ?_; conv => whnf)
    | (refine CallA_view (fn43 w.current (turnF x 2) (by omega) (turnF_in hx _).1) rfl 1 rfl ?_; conv => whnf)
    | (refine DrawCall_v (fn43 w.current (turnF x 2) (by omega) (turnF_in hx _).1) rfl rfl ?_; conv => whnf)
    | (refine DrawCall_view (fn43 w.current (turnF x 2) (by omega) (turnF_in hx _).1) rfl 1 rfl ?_; conv => whnf)
    | (refine CallA_v (fn44 x 3 hx (by omega)) rfl rfl ?_; conv => whnf)
    | (refine CallA_view (fn44 x 3 hx (by omega)) rfl 1 rfl ?_; conv => whnf)
    | (refine DrawCall_v (fn44 x 3 hx (by omega)) rfl rfl ?_; conv => whnf)
    | (refine DrawCall_view (fn44 x 3 hx (by omega)) rfl 1 rfl ?_; conv => whnf)
    | (refine CallA_v (fn43 w.swell (turnF x 3) (by omega) (turnF_in hx _).1) rfl rfl ?_; conv => whnf)
    | (refine CallA_view (fn43 w.swell (turnF x 3) (by omega) (turnF_in hx _).1) rfl 1 rfl ?_; conv => whnf)
    | (refine DrawCall_v (fn43 w.swell (turnF x 3) (by omega) (turnF_in hx _).1) rfl rfl ?_; conv => whnf)
    | (refine DrawCall_view (fn43 w.swell (turnF x 3) (by omega) (turnF_in hx _).1) rfl 1 rfl ?_; conv => whnf)
    | (refine CallA_v (fn44 x 4 hx (by omega)) rfl rfl ?_; conv => whnf)
    | (refine CallA_view (fn44 x 4 hx (by omega)) rfl 1 rfl ?_; conv => whnf)
    | (refine DrawCall_v (fn44 x 4 hx (by omega)) rfl rfl ?_; conv => whnf)
    | (refine DrawCall_view (fn44 x 4 hx (by omega)) rfl 1 rfl ?_; conv => whnf)
    | (refine CallA_v (fn43 c.chain.hold (turnF x 4) (by omega) (turnF_in hx _).1) rfl rfl ?_; conv => whnf)
    | (refine CallA_view (fn43 c.chain.hold (turnF x 4) (by omega) (turnF_in hx _).1) rfl 1 rfl ?_; conv => whnf)
    | (refine DrawCall_v (fn43 c.chain.hold (turnF x 4) (by omega) (turnF_in hx _).1) rfl rfl ?_; conv => whnf)
    | (refine DrawCall_view (fn43 c.chain.hold (turnF x 4) (by omega) (turnF_in hx _).1) rfl 1 rfl ?_; conv => whnf)
    | (refine arith_in (wrap_i64 (by (try dsimp only); omega)) ?_; conv => whnf)
    | (refine elemK_nat (by assumption) ?_; conv => whnf)
    | (refine ownK_whole (by first | rfl | assumption | (simp [Els.len]; done) | (simp [Els.len]; omega)) ?_; conv => whnf)
    | (refine chk_i (by first | (simp [Els.len, Els.cons, V.cells]; done) | (simp [Els.len, Els.cons, V.cells]; omega)) ?_; conv => whnf)
    | fail)
  refine LoopA_i (T := tys) tysOk (by exact drawsB_spec mixed tysOk (by decide +kernel)) c.chain.shots (fun i (g : List (List D) × Nat) => ⟨[(2, .d (wordsD x)), (3, .ptr 3 0), (6, .ptr 6 0), (7, .ptr 7 0), (8, .d (i64 i))],
      [(3, .box (.dd c.cells)), (6, .box (.dd [i64 0, i64 0, i64 0, i64 0, i64 0, .nils])), (7, .box (.vv (inj (anyA c w x) ++ [.sl 74 1 0 g.2]))), (74, .arr 1 (.dd g.1))], st⟩)
    (fun i r g => g.1 = (((thickL c).mapIdx fun i s => amongF s (turnF x (5 + (i : Int)))).take i).map (fun n => [i64 n]) ∧ i = g.2) ([], 0)
    ((Wk.bornAtD 7 74 1 (anyA c w x) [] rfl rfl rfl rfl rfl).trans (Wk.sub ⟨rfl, rfl, rfl, rfl, rfl, trivial⟩ ⟨rfl, rfl, rfl, rfl, trivial⟩)) ⟨rfl, rfl⟩ ?_ ?_
  · rintro i s r ⟨es, k⟩ hsx hi hr ⟨h1, h2⟩
    replace h1 : es = _ := h1
    replace h2 : i = k := h2
    subst h1 h2
    have hm := List.mem_of_getElem? hsx
    have htx := thick_get hsx
    have hbt := (moor_ok hR).th _ (List.mem_of_getElem? htx)
    have hle := sound_le hR hs _ (List.mem_of_getElem? htx)
    have hti : i < (thickL c).length := by simp [thickL]; exact hi
    conv => whnf
    refine brk_i (fun _ => ?_) (fun h => absurd hi (by simpa using h))
    conv => whnf
    refine elemK_nat hsx ?_
    conv => whnf
    refine CallA_v (ds := [s.d, i64 c.chain.err, gaugesD s.gauges, i64 c.day]) (hR.rng hm) rfl rfl ?_
    conv => whnf
    generalize (rangeS s c.chain.err s.gauges c.day).1 = b at *
    repeat' (first
      | (refine CallA_v (fn44 x (5 + (i : Int)) hx (by omega)) rfl rfl ?_; conv => whnf)
      | (refine CallA_view (fn44 x (5 + (i : Int)) hx (by omega)) rfl 1 rfl ?_; conv => whnf)
      | (refine DrawCall_v (fn44 x (5 + (i : Int)) hx (by omega)) rfl rfl ?_; conv => whnf)
      | (refine DrawCall_view (fn44 x (5 + (i : Int)) hx (by omega)) rfl 1 rfl ?_; conv => whnf)
      | (refine CallA_v (fn43 b (turnF x (5 + (i : Int))) (by omega) (turnF_in hx _).1) rfl rfl ?_; conv => whnf)
      | (refine CallA_view (fn43 b (turnF x (5 + (i : Int))) (by omega) (turnF_in hx _).1) rfl 1 rfl ?_; conv => whnf)
      | (refine DrawCall_v (fn43 b (turnF x (5 + (i : Int))) (by omega) (turnF_in hx _).1) rfl rfl ?_; conv => whnf)
      | (refine DrawCall_view (fn43 b (turnF x (5 + (i : Int))) (by omega) (turnF_in hx _).1) rfl 1 rfl ?_; conv => whnf)
      | (refine arith_in (wrap_i64 (by (try dsimp only); omega)) ?_; conv => whnf)
      | (refine elemK_nat (by assumption) ?_; conv => whnf)
      | (refine ownK_whole (by first | rfl | assumption | (simp [Els.len]; done) | (simp [Els.len]; omega)) ?_; conv => whnf)
      | (refine chk_i (by first | (simp [Els.len, Els.cons, V.cells]; done) | (simp [Els.len, Els.cons, V.cells]; omega)) ?_; conv => whnf)
      | fail)
    refine ⟨(_, _), ⟨?_, ?_⟩, (Wk.sub ⟨rfl, rfl, rfl, rfl, rfl, trivial⟩ ⟨rfl, rfl, rfl, rfl, trivial⟩)⟩
    · simp only [List.take_succ, List.map_append]
      simp [htx]
    · simp [Els.len]; omega
  · rintro ⟨es, k⟩ ⟨h1, h2⟩
    replace h1 : es = _ := h1
    replace h2 : _ = k := h2
    subst h1 h2
    conv => whnf
    refine brk_i (fun h => absurd h (by simp)) (fun _ => ?_)
    conv => whnf
    refine RetA_view 3 (ds := [(anyT c w x).d]) (viewL_cons (viewV_agg (viewL_app (a := anyA c w x) (viewL_cons (viewV_sl' rfl ?_ ?_) rfl))) rfl) ⟨⟨rfl, rfl⟩, rfl⟩
    · rw [List.take_of_length_le (by simp [thickL])]; rfl
    · simp [anyT, thickL]
end Go.PX

/- PX: a call by value whose arguments are frozen for good. -/
namespace Go.PX

def delL : List Nat → List Wr
  | [] => []
  | i :: r => .del i :: delL r

theorem applyWs_delL {σ : Type} : ∀ (l : List Nat) (st : St σ), applyWs st (delL l) = ⟨st.env, cutL st.heap l, st.s⟩
  | [], st => rfl
  | i :: r, st => by
    show applyWs (applyW st (.del i)) (delL r) = _
    rw [applyWs_delL r]; rfl

theorem applyWs_append {σ : Type} : ∀ (a b : List Wr) (st : St σ), applyWs st (a ++ b) = applyWs (applyWs st a) b
  | [], b, st => rfl
  | w :: a, b, st => applyWs_append a b (applyW st w)

section
variable {P : Program} {σ : Type}

/-- The objects of a part are frozen for good. -/
theorem Good.frzPart {cx : Cx σ} {r : Option Nat} {m : List Nat} {L : Loc} {F : Nat → Nat} {st : St σ} {a : Act} {w : World} (hg : Good cx r m L F st a w) {h : Heap} (hsub : SubT h st.heap) (n : Nat) :
    ∃ F1, Good cx r m L F1 (applyWs st (delL (keysOf h))) a w ∧ Tr F w F1 w ∧ ∀ args vals ds, viewL (objD h n) args = some ds → RepVL cx.yv L F w args vals → RepDL F1 w ds vals := by
  have hok : HeapOk cx L F h st.s w := (hg.sub (e := st.env) (h := h) (fun _ _ h => h) hsub).heap
  have tr := frzAll_tr hok
  have hF1C : ∀ b, cx.C st.s b → frzAll L F h w b = F b := fun b hb => frzAll_C hok hb
  have hF1o : ∀ id o, get st.heap id = some o → id ∉ keysOf h → Backed L id o → frzAll L F h w (L.ρ id) = F (L.ρ id) := by
    intro id o hi hn hb
    refine frzAll_other ?_
    rintro ⟨j, p, hj, hbj, hij⟩
    have := hg.heap.inj j id p o (hsub j p hj) hi hbj hb hij
    subst this
    exact hn (keysOf_mem hj)
  have hfr := frzAll_fresh hok
  have hobj := objD_t hok n
  generalize frzAll L F h w = F1 at tr hF1C hF1o hfr hobj
  rw [applyWs_delL]
  have hget : ∀ i o, get (cutL st.heap (keysOf h)) i = some o → i ∉ keysOf h ∧ get st.heap i = some o := by
    intro i o hi
    rw [get_cutL] at hi
    split at hi
    · cases hi
    · rename_i hn; exact ⟨hn, hi⟩
  refine ⟨F1, ⟨⟨cx.stable hg.heap.hg tr hfr fun b hb => ⟨rfl, hF1C b hb⟩, hg.heap.csz, hfr, ?_, ?_, ?_⟩, ?_, hg.dfr, hg.mks, hg.mnd, hg.lk, hg.pin, hg.tsz⟩, tr, fun args vals ds hv hr => viewL_t tr hobj args vals ds hv hr⟩
  · intro i o hi
    exact RepO.mono tr i o (fun _ _ => ⟨rfl, rfl⟩) ⟨rfl, rfl⟩ (fun _ => rfl) (hg.heap.obj i o (hget i o hi).2)
  · intro i o hi hb
    obtain ⟨hn, h0⟩ := hget i o hi
    rw [hF1o i o h0 hn hb]
    exact hg.heap.own i o h0 hb
  · intro i j o p hi hj hbi hbj he
    exact hg.heap.inj i j o p (hget i o hi).2 (hget j p hj).2 hbi hbj he
  · intro t v ht
    obtain ⟨x, hx, hr⟩ := hg.env t v ht
    exact ⟨x, hx, RepV.mono tr v x (fun _ _ => ⟨rfl, rfl⟩) hr⟩

/-- A call by value; what is handed over is data from then on. -/
theorem outCall_fz {f : FuncId} {ds : List D} {res : D} (hf : FnV P f ds res) (n : Nat) {e : Env} {h : Heap} {d : Option Nat} {args : List V} (hv : viewL (objD h n) args = some ds) (hd : Nat.ble (d.getD 0) 10000 = true) :
    OutCall P e h d f args (delL (keysOf h) ++ wset d (.d res)) := by
  have ho := outCall_v (P := P) hf (e := []) (h := []) (d := d) (args := inj ds) rfl hd
  refine ⟨ho.1, fun {σ} cx r m L F st a w vals he hh hg hdt hr => ?_⟩
  obtain ⟨F1, hg1, tr1, hvw⟩ := hg.frzPart hh n
  rw [applyWs_append]
  refine (ho.2 cx r m L F1 (applyWs st (delL (keysOf h))) a w vals (fun _ _ h => by cases h) (fun _ _ h => by cases h) hg1 hdt (RepVL.inj.2 (hvw _ _ _ hv hr))).mono ?_
  rintro en w' ⟨x, rfl, L', F', hg', tr'⟩
  exact ⟨x, rfl, L', F', hg', Tr.trans tr1 tr'⟩

theorem CallA_fz {Y : Hd σ} {f : FuncId} {ds : List D} {res : D} (hf : FnV P f ds res) (n : Nat) {e : Env} {h : Heap} {s : σ} {d : Option Nat} {args : List V} (ids : List Nat) (hv : viewL (objD (keepT ids h) n) args = some ds) (hd : Nat.ble (d.getD 0) 10000 = true)
    {K : St σ → Prop} (hk : applyK (delL (keysOf (keepT ids h)) ++ wset d (.d res)) e h fun e h => K ⟨e, h, s⟩) : CallA P Y ⟨e, h, s⟩ d f args K := by
  have ho := outCall_fz (P := P) hf n (e := e) (h := keepT ids h) (d := d) (args := args) hv hd
  refine CallA_out (ws := delL (keysOf (keepT ids h)) ++ wset d (.d res)) ⟨ho.1, fun {σ} cx r m L F st a w vals he hh hg hdt hr => ?_⟩ hk
  exact ho.2 cx r m L F st a w vals he (fun i o hi => hh i o (sub_keepT ids h i o hi)) hg hdt hr

theorem DrawCall_fz {f : FuncId} {ds : List D} {res : D} (hf : FnV P f ds res) (n : Nat) {e : Env} {h : Heap} {d : Option Nat} {args : List V} (hv : viewL (objD h n) args = some ds) (hd : Nat.ble (d.getD 0) 10000 = true)
    {K : List Wr → Prop} (hk : K (delL (keysOf h) ++ wset d (.d res))) : DrawCall P e h d f args K := ⟨_, hk, outCall_fz hf n hv hd⟩
end
end Go.PX

namespace Go.PX
open Go.Proofs

theorem word_cons {l : List Int} {n : Int} (hn : 0 ≤ n ∧ n ≤ 65535) (h : wordOk l) : wordOk (n :: l) := fun m hm => by
  rcases List.mem_cons.1 hm with rfl | hm
  · exact hn
  · exact h m hm

theorem fn8 (c : Case) (n : Int) (x : List Int) (hn : 0 ≤ n ∧ n ≤ 65535) (hx : wordOk x) (hxl : (1 + x.length) * 2 ≤ 140737488355328) : FnV Try.prog 8 [c.d, .int .u16 n, wordsD x] (.bool true) := by
  refine fnV_of mixed tysOk Try.func8 rfl (ft := ft8) 3 (by decide +kernel) (by rfl) fun {σ} Y st => ?_
  conv => whnf
  refine CallA_v (ds := [c.d]) (fn33 c) rfl rfl ?_
  conv => whnf
  by_cases he : soundAll c = 0
  · refine brk_i (fun h => absurd h (by simp [he])) (fun _ => ?_)
    have h' : lookE c (checkC c).2.2 = 0 := he
    obtain ⟨h0, hs⟩ := lookE_zero h'
    have hR := case_ok h0
    have hwl := hR.wlen
    have hl := links_ok hR
    have ht : 0 ≤ n.tmod (linksF c.chain.shots) ∧ n.tmod (linksF c.chain.shots) < linksF c.chain.shots := by
      rw [Int.tmod_eq_emod_of_nonneg hn.1]
      exact ⟨Int.emod_nonneg _ (by omega), Int.emod_lt_of_pos _ (by omega)⟩
    conv => whnf
    repeat' (first
      | (refine CallA_v (fn34 c.chain (by have := hR.lens; omega) (links_bd hR)) rfl rfl ?_; conv => whnf)
      | (refine CallA_view (fn34 c.chain (by have := hR.lens; omega) (links_bd hR)) rfl 1 rfl ?_; conv => whnf)
      | (refine DrawCall_v (fn34 c.chain (by have := hR.lens; omega) (links_bd hR)) rfl rfl ?_; conv => whnf)
      | (refine DrawCall_view (fn34 c.chain (by have := hR.lens; omega) (links_bd hR)) rfl 1 rfl ?_; conv => whnf)
      | (refine arith_in (wrap_i64 (by (try dsimp only); omega)) ?_; conv => whnf)
      | (refine elemK_nat (by assumption) ?_; conv => whnf)
      | (refine ownK_whole (by first | rfl | assumption | (simp [Els.len]; done) | (simp [Els.len]; omega)) ?_; conv => whnf)
      | (refine chk_i (by first | (simp [Els.len, Els.cons, V.cells]; done) | (simp [Els.len, Els.cons, V.cells]; omega)) ?_; conv => whnf)
      | fail)
    obtain ⟨a, ha⟩ : ∃ a, a = 1 + n.tmod (linksF c.chain.shots) := ⟨_, rfl⟩
    rw [← ha]
    have ho : 1 ≤ a ∧ a ≤ linksF c.chain.shots := by omega
    refine CallA_v (ds := [c.d, i64 a]) (fn25 c a) rfl rfl ?_
    rw [whyE_in hR he ho]
    by_cases hb0 : (breakF c (thickL c) a).1 = 0
    · have hbz : breakF c (thickL c) a = (0, 0, 0) := breakL_zero hb0
      rw [hbz]
      conv => whnf
      rw [decide_eq_false (show ¬ ((c.weathers.map Weather.cells).length : Int) ≤ 0 by simp only [List.length_map]; omega)]
      conv => whnf
      obtain ⟨kb, hkb⟩ : ∃ kb, kb = c.weathers.length := ⟨_, rfl⟩
      have hkl : kb ≤ c.weathers.length := by omega
      have hj : ∀ (j : Nat) (w' : Weather), j < kb → c.weathers[j]? = some w' → (judgeW c (thickL c) a w').1 = 0 := fun j w' _ hw' => break_zero.1 hb0 w' (List.mem_of_getElem? hw')
      rw [show (c.weathers.map Weather.cells).length = kb by simp [hkb]]
      refine LoopA_i (T := tys) tysOk (by exact drawsB_spec mixed tysOk (by decide +kernel)) (c.weathers.take kb) (fun i (_ : Unit) => ⟨[(2, .d (wordsD x)), (3, .ptr 3 0), (6, .d (.bool false)), (12, .d (i64 a)), (17, .d (i64 kb)), (24, .d (i64 i))], [(3, .box (.dd c.cells))], st⟩)
        (fun i r _ => True) () (Wk.sub ⟨rfl, rfl, rfl, rfl, rfl, rfl, trivial⟩ ⟨rfl, trivial⟩) trivial ?_ ?_
      · intro i w r _ hw hi hr _
        have hlt : (c.weathers.take kb).length = kb := by simp; omega
        rw [hlt] at hi hr
        have hw : c.weathers[i]? = some w := by rw [List.getElem?_take] at hw; simpa [hi] using hw
        have hm := List.mem_of_getElem? hw
        have hx' : wordOk (13 * (i : Int) :: x) := word_cons (by omega) hx
        obtain ⟨g1, g2, g3⟩ := any_ok hR hs hm hx'
        obtain ⟨hF, hbd⟩ := bands_ok hR hm g1 g2
        have hjz := hj i w hi hw
        have hz : judgeF c (anyT c w (13 * (i : Int) :: x)) a = (0, 0) := judge_mono hR (case_rows h0) g3 (by omega) hjz
        have hin := in_ok h0 hs hw ho g1 g2
        conv => whnf
        refine brk_i (fun _ => ?_) (fun h => absurd hi (by simpa using h))
        conv => whnf
        refine elemK_nat hw ?_
        conv => whnf
        repeat' (first
          | (refine arith_in (IntWalk.u16_in _ (by (try dsimp only); omega)) ?_; conv => whnf)
          | (refine arith_in (wrap_i64 (by (try dsimp only); omega)) ?_; conv => whnf)
          | (refine elemK_nat (by assumption) ?_; conv => whnf)
          | (refine ownK_whole (by first | rfl | assumption | (simp [Els.len]; done) | (simp [Els.len]; omega)) ?_; conv => whnf)
          | (refine chk_i (by first | (simp [Els.len, Els.cons, V.cells]; done) | (simp [Els.len, Els.cons, V.cells]; omega)) ?_; conv => whnf)
          | fail)
        refine chk_i (by
          show (lenAllD 1 (x.map fun n => [.int .u16 n]) && true) = true
          rw [lenAllD_map (fun x => ⟨rfl, rfl⟩)]; rfl) ?_
        conv => whnf
        refine chk_i (decide_eq_true (by simp [Els.len, Els.cons, V.cells]; omega)) ?_
        conv => whnf
        refine DrawCall_fz (ds := [c.d, w.d, wordsD (13 * (i : Int) :: x)]) (fn38 c w (13 * (i : Int) :: x) hR hs hm hx') 2 (viewL_cons rfl (viewL_cons rfl (viewL_cons (viewV_sl' (es' := (13 * (i : Int) :: x).map fun n => [.int .u16 n]) rfl (by simp [Els.app]) (by simp [Els.len]; omega)) rfl))) rfl ?_
        conv => whnf
        generalize anyT c w (13 * (i : Int) :: x) = t at *
        refine CallA_v (ds := [c.d, i64 i, i64 a, t.d]) (fn39 c i a t) rfl rfl ?_
        rw [hin, hz]
        conv => whnf
        refine CallA_v (ds := [c.d, i64 a, t.d]) (fn37 c t a hR hF (by omega) g1 hbd) rfl rfl ?_
        rw [hz]
        conv => whnf
        repeat' (first
          | (refine arith_in (wrap_i64 (by (try dsimp only); omega)) ?_; conv => whnf)
          | (refine elemK_nat (by assumption) ?_; conv => whnf)
          | (refine ownK_whole (by first | rfl | assumption | (simp [Els.len]; done) | (simp [Els.len]; omega)) ?_; conv => whnf)
          | (refine chk_i (by first | (simp [Els.len, Els.cons, V.cells]; done) | (simp [Els.len, Els.cons, V.cells]; omega)) ?_; conv => whnf)
          | fail)
        exact ⟨(), trivial, (Wk.sub ⟨rfl, rfl, rfl, rfl, rfl, rfl, trivial⟩ ⟨rfl, trivial⟩)⟩
      · intro _ _
        have hlt : (c.weathers.take kb).length = kb := by simp; omega
        rw [hlt]
        conv => whnf
        refine brk_i (fun h => absurd h (by simp)) (fun _ => ?_)
        conv => whnf
        refine CallA_v (fn22) rfl rfl ?_
        conv => whnf
        exact RetA_view 0 rfl ⟨⟨rfl, rfl⟩, rfl⟩
    · obtain ⟨kb, w, hw, hbk, hbn, hj⟩ := break_some (l := c.weathers) (i := 0) hb0
      have hbk : breakF c (thickL c) a = ((judgeW c (thickL c) a w).1, (0 : Int) + (kb : Nat), (judgeW c (thickL c) a w).2) := hbk
      have hkl : kb ≤ c.weathers.length := by have := (List.getElem?_eq_some_iff.1 hw).1; omega
      have hm := List.mem_of_getElem? hw
      have hsh := show_ok h0 hs hw ho
      obtain ⟨g1, g2⟩ := worst_in hR hs hm
      obtain ⟨hF, hbd⟩ := bands_ok hR hm g1 g2
      have htr : truthE c w (worstT c (thickL c) w) = 0 := by unfold truthE; rw [if_pos g1, g2]; rfl
      have hjd : judgeF c (worstT c (thickL c) w) a = judgeW c (thickL c) a w := rfl
      rw [hbk, Int.zero_add]
      generalize judgeW c (thickL c) a w = q at *
      generalize worstT c (thickL c) w = t at *
      conv => whnf
      rw [decide_eq_false (show ¬ ((c.weathers.map Weather.cells).length : Int) ≤ kb by have := (List.getElem?_eq_some_iff.1 hw).1; simp; omega)]
      conv => whnf
      rw [decide_eq_false hbn]
      conv => whnf
      refine CallA_v (ds := [c.d, i64 kb, i64 a]) (fn35 c kb a) rfl rfl ?_
      rw [hsh]
      conv => whnf
      rw [self_t]
      conv => whnf
      rw [self_t]
      conv => whnf
      refine elemK_nat hw ?_
      conv => whnf
      refine DrawCall_v (ds := [c.d, w.d, t.d]) (fn36 c w t hR) rfl rfl ?_
      rw [htr]
      conv => whnf
      refine CallA_v (ds := [c.d, i64 a, t.d]) (fn37 c t a hR hF (by omega) g1 hbd) rfl rfl ?_
      rw [hjd]
      conv => whnf
      rw [self_t]
      conv => whnf
      rw [self_t]
      conv => whnf
      refine LoopA_i (T := tys) tysOk (by exact drawsB_spec mixed tysOk (by decide +kernel)) (c.weathers.take kb) (fun i (_ : Unit) => ⟨[(2, .d (wordsD x)), (3, .ptr 3 0), (6, .d (.bool false)), (12, .d (i64 a)), (17, .d (i64 kb)), (24, .d (i64 i))], [(3, .box (.dd c.cells))], st⟩)
        (fun i r _ => True) () (Wk.sub ⟨rfl, rfl, rfl, rfl, rfl, rfl, trivial⟩ ⟨rfl, trivial⟩) trivial ?_ ?_
      · intro i w r _ hw hi hr _
        have hlt : (c.weathers.take kb).length = kb := by simp; omega
        rw [hlt] at hi hr
        have hw : c.weathers[i]? = some w := by rw [List.getElem?_take] at hw; simpa [hi] using hw
        have hm := List.mem_of_getElem? hw
        have hx' : wordOk (13 * (i : Int) :: x) := word_cons (by omega) hx
        obtain ⟨g1, g2, g3⟩ := any_ok hR hs hm hx'
        obtain ⟨hF, hbd⟩ := bands_ok hR hm g1 g2
        have hjz := hj i w hi hw
        have hz : judgeF c (anyT c w (13 * (i : Int) :: x)) a = (0, 0) := judge_mono hR (case_rows h0) g3 (by omega) hjz
        have hin := in_ok h0 hs hw ho g1 g2
        conv => whnf
        refine brk_i (fun _ => ?_) (fun h => absurd hi (by simpa using h))
        conv => whnf
        refine elemK_nat hw ?_
        conv => whnf
        repeat' (first
          | (refine arith_in (IntWalk.u16_in _ (by (try dsimp only); omega)) ?_; conv => whnf)
          | (refine arith_in (wrap_i64 (by (try dsimp only); omega)) ?_; conv => whnf)
          | (refine elemK_nat (by assumption) ?_; conv => whnf)
          | (refine ownK_whole (by first | rfl | assumption | (simp [Els.len]; done) | (simp [Els.len]; omega)) ?_; conv => whnf)
          | (refine chk_i (by first | (simp [Els.len, Els.cons, V.cells]; done) | (simp [Els.len, Els.cons, V.cells]; omega)) ?_; conv => whnf)
          | fail)
        refine chk_i (by
          show (lenAllD 1 (x.map fun n => [.int .u16 n]) && true) = true
          rw [lenAllD_map (fun x => ⟨rfl, rfl⟩)]; rfl) ?_
        conv => whnf
        refine chk_i (decide_eq_true (by simp [Els.len, Els.cons, V.cells]; omega)) ?_
        conv => whnf
        refine DrawCall_fz (ds := [c.d, w.d, wordsD (13 * (i : Int) :: x)]) (fn38 c w (13 * (i : Int) :: x) hR hs hm hx') 2 (viewL_cons rfl (viewL_cons rfl (viewL_cons (viewV_sl' (es' := (13 * (i : Int) :: x).map fun n => [.int .u16 n]) rfl (by simp [Els.app]) (by simp [Els.len]; omega)) rfl))) rfl ?_
        conv => whnf
        generalize anyT c w (13 * (i : Int) :: x) = t at *
        refine CallA_v (ds := [c.d, i64 i, i64 a, t.d]) (fn39 c i a t) rfl rfl ?_
        rw [hin, hz]
        conv => whnf
        refine CallA_v (ds := [c.d, i64 a, t.d]) (fn37 c t a hR hF (by omega) g1 hbd) rfl rfl ?_
        rw [hz]
        conv => whnf
        repeat' (first
          | (refine arith_in (wrap_i64 (by (try dsimp only); omega)) ?_; conv => whnf)
          | (refine elemK_nat (by assumption) ?_; conv => whnf)
          | (refine ownK_whole (by first | rfl | assumption | (simp [Els.len]; done) | (simp [Els.len]; omega)) ?_; conv => whnf)
          | (refine chk_i (by first | (simp [Els.len, Els.cons, V.cells]; done) | (simp [Els.len, Els.cons, V.cells]; omega)) ?_; conv => whnf)
          | fail)
        exact ⟨(), trivial, (Wk.sub ⟨rfl, rfl, rfl, rfl, rfl, rfl, trivial⟩ ⟨rfl, trivial⟩)⟩
      · intro _ _
        have hlt : (c.weathers.take kb).length = kb := by simp; omega
        rw [hlt]
        conv => whnf
        refine brk_i (fun h => absurd h (by simp)) (fun _ => ?_)
        conv => whnf
        refine CallA_v (fn22) rfl rfl ?_
        conv => whnf
        exact RetA_view 0 rfl ⟨⟨rfl, rfl⟩, rfl⟩
  · refine brk_i (fun _ => ?_) (fun h => absurd h (by simpa using he))
    conv => whnf
    refine CallA_v (ds := [c.d, i64 1]) (fn25 c 1) rfl rfl ?_
    rw [why_err he]
    conv => whnf
    rw [self_t]
    conv => whnf
    refine CallA_v (fn22) rfl rfl ?_
    conv => whnf
    exact RetA_view 0 rfl ⟨⟨rfl, rfl⟩, rfl⟩
end Go.PX

namespace Go.PX
open Go.Proofs

/-! A told chain: its gaugings are made of a truth. -/

def toldN (x : List Int) (i : Nat) (s : Shot) : Int := amongF s.new (turnF x (2 * (i : Int)))
def toldW (x : List Int) (i : Nat) (s : Shot) : Int := amongF s.wear (turnF x (2 * (i : Int) + 1))
def toldG (err : Int) (off : List Int) (i : Nat) (s : Shot) (n w : Int) (k : Nat) (g : Gauge) : Gauge :=
  ⟨g.day, max 0 (min 60000 (onF s.set n w g.day + (turnF off (3 * (i : Int) + (k : Int))).tmod (2 * err + 1) - err))⟩
def toldS (err : Int) (x off : List Int) (i : Nat) (s : Shot) : Shot := { s with gauges := s.gauges.mapIdx (toldG err off i s (toldN x i s) (toldW x i s)) }
def toldC (c : Case) (x off : List Int) : Case := { c with chain := { c.chain with shots := c.chain.shots.mapIdx (toldS c.chain.err x off) } }

theorem gaugesL_map {set : Int} : ∀ {l : List Gauge} {last : Int} {f : Nat → Gauge → Gauge}, (∀ k g, (f k g).day = g.day ∧ 0 ≤ (f k g).shown ∧ (f k g).shown ≤ 60000) → gaugesL set last l = 0 → gaugesL set last (l.mapIdx f) = 0
  | [], _, _, _, _ => by simp [gaugesL]
  | g :: r, last, f, hf, h => by
    obtain ⟨h1, h2⟩ := hf 0 g
    rw [List.mapIdx_cons]
    simp only [gaugesL] at h ⊢
    rw [h1]
    split at h
    · rename_i hin
      simp only [Bool.and_eq_true, inB_iff] at hin
      rw [if_pos (by simp only [Bool.and_eq_true, inB_iff]; omega)]
      split at h
      · exact absurd h (by decide)
      · rename_i hlt
        rw [if_neg hlt]
        exact gaugesL_map (fun k g => hf (k + 1) g) h
    · exact absurd h (by decide)

theorem checkF_iff {s : Shot} : checkF s = 0 ↔ ((1 ≤ s.links ∧ s.links ≤ 40) ∧ (0 ≤ s.set ∧ s.set ≤ 40000) ∧ (1 ≤ s.new.lo ∧ s.new.lo ≤ s.new.hi ∧ s.new.hi ≤ 60000) ∧ (0 ≤ s.wear.lo ∧ s.wear.lo ≤ s.wear.hi ∧ s.wear.hi ≤ 20)) ∧ s.gauges.length ≤ 6 ∧ gaugesL s.set s.set s.gauges = 0 := by
  unfold checkF
  split
  · rename_i h1
    simp only [Bool.and_eq_true, inB_iff] at h1
    split
    · exact ⟨fun h => absurd h (by decide), fun h => by omega⟩
    · split
      · exact ⟨fun h => absurd h (by decide), fun h => by omega⟩
      · exact ⟨fun h => ⟨by omega, by omega, h⟩, fun h => h.2.2⟩
  · rename_i h1
    refine ⟨fun h => absurd h (by decide), fun h => absurd ?_ h1⟩
    simp only [Bool.and_eq_true, inB_iff]
    omega

theorem told_shot {err : Int} {x off : List Int} {i : Nat} {s : Shot} (h : checkF s = 0) : checkF (toldS err x off i s) = 0 := by
  rw [checkF_iff] at h ⊢
  refine ⟨h.1, by simpa [toldS] using h.2.1, gaugesL_map (fun k g => ?_) h.2.2⟩
  exact ⟨rfl, Int.le_max_left _ _, Int.max_le.2 ⟨by omega, Int.min_le_left _ _⟩⟩

theorem told_ok {c : Case} (h : (checkC c).2.2 = 0) (x off : List Int) : (checkC (toldC c x off)).2.2 = 0 := by
  have hG := (check_iff c).1 h
  refine (check_iff _).2 ⟨?_, ?_, ?_, hG.rows, hG.ship, hG.day, hG.wlen, hG.weathers⟩
  · have hp := plain_iff.1 hG.plain
    refine plain_iff.2 ⟨?_, hp.2⟩
    show 1 ≤ (c.chain.shots.mapIdx (toldS c.chain.err x off)).length ∧ (c.chain.shots.mapIdx (toldS c.chain.err x off)).length ≤ 7
    rw [List.length_mapIdx]; exact hp.1
  · intro s hs
    obtain ⟨i, hi, rfl⟩ := List.mem_mapIdx.1 hs
    have := hG.shots c.chain.shots[i] (List.getElem_mem ..)
    exact ⟨⟨this.1.1, told_shot this.1.2⟩, this.2⟩
  · have hn := hG.names
    rw [List.pairwise_iff_getElem] at hn ⊢
    intro i j hi hj hij
    have hi' : i < c.chain.shots.length := by simpa [toldC] using hi
    have hj' : j < c.chain.shots.length := by simpa [toldC] using hj
    have := hn i j hi' hj' hij
    simpa [toldC, toldS] using this

theorem told_truth {err : Int} {x off : List Int} {i : Nat} {s : Shot} (hs : ShotR s) (he : 0 ≤ err) (hx : wordOk x) (ho : wordOk off) :
    ∃ q, (toldW x i s, q) ∈ truthsS (toldS err x off i s) err (toldS err x off i s).gauges ∧ q.1 ≤ toldN x i s ∧ toldN x i s ≤ q.2 := by
  have hn := amongF_in (s := s.new) hs.new.2.1 (turnF_in hx (2 * (i : Int))).1
  have hw := amongF_in (s := s.wear) hs.wear.2.1 (turnF_in hx (2 * (i : Int) + 1)).1
  have hnr := hs.new
  have hwr := hs.wear
  have hg := hs.gauges
  have key : ∀ g ∈ (toldS err x off i s).gauges, agreeG s.set err (toldW x i s) g (toldN x i s) := by
    intro g' hg'
    obtain ⟨k, hk, rfl⟩ := List.mem_mapIdx.1 hg'
    have hgk := hg s.gauges[k] (List.getElem_mem ..)
    generalize s.gauges[k] = g at *
    have ht := (turnF_in ho (3 * (i : Int) + (k : Int))).1
    have h1 := Int.emod_nonneg (turnF off (3 * (i : Int) + (k : Int))) (show 2 * err + 1 ≠ 0 by omega)
    have h2 := Int.emod_lt_of_pos (turnF off (3 * (i : Int) + (k : Int))) (show 0 < 2 * err + 1 by omega)
    rw [← Int.tmod_eq_emod_of_nonneg ht] at h1 h2
    have hL : 0 ≤ toldW x i s * (g.day - s.set) := Int.mul_nonneg (by unfold toldW; omega) (by omega)
    have hN : toldN x i s ≤ 60000 := by unfold toldN; omega
    unfold agreeG toldG onF
    simp only
    generalize (turnF off (3 * (i : Int) + (k : Int))).tmod (2 * err + 1) = o at *
    generalize toldW x i s * (g.day - s.set) = L at *
    generalize toldN x i s = n at *
    constructor
    · intro h; omega
    · omega
  obtain ⟨q, hq, h1, h2⟩ := (fits_iff (p := (s.new.lo, s.new.hi)) (n := toldN x i s)).2 ⟨by unfold toldN; exact hn.1, by unfold toldN; exact hn.2, key⟩
  exact ⟨q, truths_fit.2 ⟨by show s.wear.lo ≤ toldW x i s; unfold toldW; omega, by show toldW x i s < s.wear.lo + ((s.wear.hi + 1 - s.wear.lo).toNat : Int); unfold toldW; omega, hq⟩, h1, h2⟩

theorem told_range {err : Int} {x off : List Int} {i : Nat} {s : Shot} (hs : ShotR s) (he : 0 ≤ err) (hx : wordOk x) (ho : wordOk off) (day : Int) :
    (rangeS (toldS err x off i s) err (toldS err x off i s).gauges day).2 = true ∧ (rangeS (toldS err x off i s) err (toldS err x off i s).gauges day).1.lo ≤ onF s.set (toldN x i s) (toldW x i s) day ∧
      onF s.set (toldN x i s) (toldW x i s) day ≤ (rangeS (toldS err x off i s) err (toldS err x off i s).gauges day).1.hi := by
  obtain ⟨q, hq, h1, h2⟩ := told_truth (err := err) (x := x) (off := off) (i := i) hs he hx ho
  obtain ⟨h3, h4, _, _⟩ := range_spec (toldS err x off i s) err (toldS err x off i s).gauges day (List.ne_nil_of_mem hq)
  have h5 := h4 _ hq
  have m1 := onF_mono (set := s.set) (wear := toldW x i s) (day := day) h1
  have m2 := onF_mono (set := s.set) (wear := toldW x i s) (day := day) h2
  have e : (toldS err x off i s).set = s.set := rfl
  rw [e] at h5
  exact ⟨h3, Int.le_trans h5.1 m1, Int.le_trans m2 h5.2⟩

theorem soundL_all {off day : Int} : ∀ {l : List Shot}, (∀ s ∈ l, (rangeS s off s.gauges day).2 = true) → soundL off day l 0 = 0
  | [], _ => rfl
  | s :: r, h => by
    simp only [soundL, if_true]
    rw [h s (by simp)]
    simp only [if_true]
    exact soundL_all fun x hx => h x (by simp [hx])

theorem withoutF_nil {α : Type} : ∀ (l : List α) (i : Int), withoutF [] l i = l
  | [], _ => rfl
  | x :: r, i => by simp [withoutF, withoutF_nil r]

theorem doubtsQ_nil {s : Shot} {off : Int} (h : truthsS s off s.gauges ≠ []) : doubtsQ s off = [] := by
  unfold doubtsQ chooseF
  rw [List.range'_succ, List.findSome?_cons]
  have : (doubtW s off []).2 = true := by
    unfold doubtW
    rw [withoutF_nil]
    simpa using h
  simp [fillF, this]
end Go.PX

/- PX: objects are frozen, one that holds them is data from then on. -/
namespace Go.PX

theorem viewLL_app {g : Nat → Option DO} {vs : List (List V)} {ds : List (List D)} (h : viewLL g vs = some ds) : ∀ (es : List (List D)), viewLL g (injL es ++ vs) = some (es ++ ds)
  | [] => h
  | e :: r => by
    show viewLL g (inj e :: (injL r ++ vs)) = _
    rw [viewLL, viewLL_app h r]
    have : viewL g (inj e) = some e := by
      have := viewL_app (g := g) (a := e) (r := []) (r' := []) rfl
      simpa using this
    rw [this]; rfl

theorem viewLL_one {g : Nat → Option DO} {v : List V} {d : List D} (h : viewL g v = some d) : viewLL g [v] = some [d] := by
  rw [viewLL, h]; rfl

theorem nameBL_inj (i : Nat) : ∀ l : List D, nameBL i (inj l) = false
  | [] => rfl
  | d :: r => by
    show (nameB i (.d d) || nameBL i (inj r)) = false
    rw [nameBL_inj i r]; rfl

theorem nameBL_append (i : Nat) : ∀ a b : List V, nameBL i (a ++ b) = (nameBL i a || nameBL i b)
  | [], b => rfl
  | v :: a, b => by
    show (nameB i v || nameBL i (a ++ b)) = ((nameB i v || nameBL i a) || nameBL i b)
    rw [nameBL_append i a b, Bool.or_assoc]

theorem nameBL_injL (i : Nat) (vs : List (List V)) : ∀ es : List (List D), nameBL i ((injL es ++ vs).flatten) = nameBL i vs.flatten
  | [] => rfl
  | e :: r => by
    show nameBL i (inj e ++ (injL r ++ vs).flatten) = _
    rw [nameBL_append, nameBL_inj, nameBL_injL i vs r]; rfl

theorem mapIdLL_injL (f : V → V) (vs : List (List V)) : ∀ es : List (List D), mapIdLL f (injL es ++ vs) = injL es ++ mapIdLL f vs
  | [] => rfl
  | e :: r => by
    show mapIdL f (inj e) :: mapIdLL f (injL r ++ vs) = _
    rw [mapIdL_inj, mapIdLL_injL f vs r]; rfl

section
variable {σ : Type}

theorem delL_heap {e : Env} {h : Heap} {s : σ} (l : List Nat) : applyWs (⟨e, h, s⟩ : St σ) (delL l) = ⟨e, cutL h l, s⟩ := applyWs_delL l _

theorem keys_keep {α : Type} : ∀ (ids : List Nat) (t : Tab α) (i : Nat) (o : α), get (keepT ids t) i = some o → get t i = some o := fun ids t i o h => sub_keepT ids t i o h

/-- Objects are frozen; what holds them is data. -/
theorem Wk.frzArr {e : Env} {h : Heap} {s : σ} (n : Nat) (ids : List Nat) (k : Nat) {sz : Nat} {vs : List (List V)} {ds : List (List D)} (hk : get (cutL h (keysOf (keepT ids h))) k = some (.arr sz (.vv vs))) (hv : viewLL (objD (keepT ids h) n) vs = some ds) :
    Wk (⟨e, h, s⟩ : St σ) ⟨e, put (cutL h (keysOf (keepT ids h))) k (.arr sz (.dd ds)), s⟩ := by
  intro cx r m L F a w hg
  obtain ⟨F1, hg1, tr, hvw⟩ := hg.frzPart (h := keepT ids h) (sub_keepT ids h) n
  rw [delL_heap] at hg1
  have h0 : RepO cx.yv L F w k (.arr sz (.vv vs)) := by
    rw [get_cutL] at hk
    split at hk
    · cases hk
    · exact hg.heap.obj k _ hk
  obtain ⟨f1, f2, f3⟩ := viewLL_flat hv
  have hnew : RepO cx.yv L F1 w k (.arr sz (.dd ds)) := by
    obtain ⟨c1, c2, c3⟩ := h0
    have hl : (Els.dd ds).toV.length = ds.length := by rw [← Els.len_eq]; rfl
    have hflat : (Els.dd ds).toV.flatten = inj ds.flatten := by
      show (injL ds).flatten = _
      clear hl f1 f2 f3 hv
      induction ds with
      | nil => rfl
      | cons d r ih =>
        show inj d ++ (injL r).flatten = _
        rw [ih, List.flatten_cons, inj_append]
    refine ⟨c1, ?_, ?_⟩
    · have h3 := f3 sz c2
      intro x hx
      show x.length = sz
      have : ∀ (l : List (List D)), (∀ d ∈ l, d.length = sz) → ∀ x ∈ injL l, x.length = sz := by
        intro l
        induction l with
        | nil => intro _ x hx; cases hx
        | cons d r ih =>
          intro hd x hx
          rcases List.mem_cons.1 hx with rfl | hx
          · rw [inj_length]; exact hd d (by simp)
          · exact ih (fun d hd' => hd d (by simp [hd'])) x hx
      exact this ds h3 x hx
    · rcases c3 with ⟨c4, c5⟩ | ⟨c, T, c4, c5, c6, c7⟩
      · left
        refine ⟨?_, c5⟩
        have hvs : vs = [] := c4
        have : ds = [] := by
          have : ds.length = 0 := by rw [f2, hvs]; rfl
          exact List.length_eq_zero_iff.1 this
        rw [this]; rfl
      · right
        have e1 : (Els.vv vs).toV = vs := rfl
        rw [e1] at c6 c7
        refine ⟨c, T, c4, c5, by rw [hl, f2]; exact c6, ?_⟩
        rw [hflat, hl, f2]
        exact RepVL.inj.2 (hvw _ _ _ f1 c7)
  have key : ∀ i q, get (put (cutL h (keysOf (keepT ids h))) k (.arr sz (.dd ds))) i = some q → (i = k ∧ q = .arr sz (.dd ds)) ∨ get (cutL h (keysOf (keepT ids h))) i = some q := by
    intro i q hi
    rw [get_put] at hi
    split at hi
    · rename_i e1; cases hi; exact .inl ⟨e1, rfl⟩
    · exact .inr hi
  refine ⟨L, F1, ⟨⟨hg1.heap.hg, hg1.heap.csz, hg1.heap.fresh, fun i q hi => ?_, fun i q hi hbk => ?_, fun i j q p hi hj hbi hbj e => ?_⟩, hg1.env, hg1.dfr, hg1.mks, hg1.mnd, hg1.lk, hg1.pin, hg1.tsz⟩, tr⟩
  · rcases key i q hi with ⟨rfl, rfl⟩ | hi
    · exact hnew
    · exact hg1.heap.obj i q hi
  · rcases key i q hi with ⟨rfl, rfl⟩ | hi
    · exact hg1.heap.own i _ hk hbk
    · exact hg1.heap.own i q hi hbk
  · rcases key i q hi with ⟨e1, e2⟩ | hi1 <;> rcases key j p hj with ⟨e3, e4⟩ | hj1
    · rw [e1, e3]
    · subst e1; subst e2
      exact hg1.heap.inj _ _ _ _ hk hj1 hbi hbj e
    · subst e3; subst e4
      exact hg1.heap.inj _ _ _ _ hi1 hk hbi hbj e
    · exact hg1.heap.inj _ _ _ _ hi1 hj1 hbi hbj e
end
end Go.PX

namespace Go.PX
open Go.Proofs

def caseZ0 : List D := [.nils, i64 0, i64 0, i64 0, i64 0, i64 0, .nils, i64 0, i64 0, i64 0, i64 0, i64 0, .nils]

theorem fn29 (c : Case) (x off : List Int) (hR : CaseR c) (hx : wordOk x) (ho : wordOk off) : FnV Try.prog 29 [c.d, wordsD x, wordsD off] (.tup [(toldC c x off).d, intsD (c.chain.shots.mapIdx (toldN x)), intsD (c.chain.shots.mapIdx (toldW x))]) := by
  refine fnV_of mixed tysOk Try.func29 rfl (ft := ft29) 3 (by decide +kernel) (by rfl) fun {σ} Y st => ?_
  conv => whnf
  have hlen := hR.lens
  have herr := hR.err
  refine LoopA_i (T := tys) tysOk (by exact drawsB_spec mixed tysOk (by decide +kernel)) c.chain.shots (fun i (g : (List (List D) × Nat) × (List (List D) × Nat) × (List (List D) × Nat)) => ⟨[(1, .d (wordsD x)), (2, .d (wordsD off)), (3, .ptr 3 0), (6, .ptr 6 0), (9, .sl 104 1 0 g.1.2), (10, .sl 108 1 0 g.2.1.2), (11, .sl 100 8 0 g.2.2.2), (12, .d (i64 i))],
      [(3, .box (.dd c.cells)), (6, .box (.dd caseZ0)), (104, .arr 1 (.dd g.1.1)), (108, .arr 1 (.dd g.2.1.1)), (100, .arr 8 (.dd g.2.2.1))], st⟩)
    (fun i r g => (g.1.1 = ((c.chain.shots.mapIdx (toldN x)).take i).map (fun n => [i64 n]) ∧ i = g.1.2) ∧ (g.2.1.1 = ((c.chain.shots.mapIdx (toldW x)).take i).map (fun n => [i64 n]) ∧ i = g.2.1.2) ∧
      (g.2.2.1 = ((c.chain.shots.mapIdx (toldS c.chain.err x off)).take i).map Shot.cells ∧ i = g.2.2.2)) (([], 0), ([], 0), ([], 0))
    ((((Wk.born 9 104 1 rfl rfl rfl).trans (Wk.born 10 108 1 rfl rfl rfl)).trans (Wk.born 11 100 8 rfl rfl rfl)).trans (Wk.sub ⟨rfl, rfl, rfl, rfl, rfl, rfl, rfl, rfl, trivial⟩ ⟨rfl, rfl, rfl, rfl, rfl, trivial⟩)) ⟨⟨rfl, rfl⟩, ⟨rfl, rfl⟩, rfl, rfl⟩ ?_ ?_
  · rintro i s r ⟨⟨e1, k1⟩, ⟨e2, k2⟩, ⟨e3, k3⟩⟩ hsx hi hr ⟨⟨h1, h2⟩, ⟨h3, h4⟩, h5, h6⟩
    replace h2 : i = k1 := h2
    replace h4 : i = k2 := h4
    replace h6 : i = k3 := h6
    subst h2 h4 h6
    have hm := List.mem_of_getElem? hsx
    have hs := (hR.shots s hm).1
    have hnew := hs.new
    have hwear := hs.wear
    have hset := hs.set
    have hn := amongF_in (s := s.new) hs.new.2.1 (turnF_in hx (2 * (i : Int))).1
    have hw := amongF_in (s := s.wear) hs.wear.2.1 (turnF_in hx (2 * (i : Int) + 1)).1
    have hgl := hs.len
    conv => whnf
    refine brk_i (fun _ => ?_) (fun h => absurd hi (by simpa using h))
    conv => whnf
    refine elemK_nat hsx ?_
    conv => whnf
    repeat' (first
      | (refine CallA_v (fn44 x (2 * (i : Int)) hx (by omega)) rfl rfl ?_; conv => whnf)
      | (refine CallA_view (fn44 x (2 * (i : Int)) hx (by omega)) rfl 1 rfl ?_; conv => whnf)
      | (refine DrawCall_v (fn44 x (2 * (i : Int)) hx (by omega)) rfl rfl ?_; conv => whnf)
      | (refine DrawCall_view (fn44 x (2 * (i : Int)) hx (by omega)) rfl 1 rfl ?_; conv => whnf)
      | (refine CallA_v (fn43 s.new (turnF x (2 * (i : Int))) (by omega) (turnF_in hx _).1) rfl rfl ?_; conv => whnf)
      | (refine CallA_view (fn43 s.new (turnF x (2 * (i : Int))) (by omega) (turnF_in hx _).1) rfl 1 rfl ?_; conv => whnf)
      | (refine DrawCall_v (fn43 s.new (turnF x (2 * (i : Int))) (by omega) (turnF_in hx _).1) rfl rfl ?_; conv => whnf)
      | (refine DrawCall_view (fn43 s.new (turnF x (2 * (i : Int))) (by omega) (turnF_in hx _).1) rfl 1 rfl ?_; conv => whnf)
      | (refine CallA_v (fn44 x (2 * (i : Int) + 1) hx (by omega)) rfl rfl ?_; conv => whnf)
      | (refine CallA_view (fn44 x (2 * (i : Int) + 1) hx (by omega)) rfl 1 rfl ?_; conv => whnf)
      | (refine DrawCall_v (fn44 x (2 * (i : Int) + 1) hx (by omega)) rfl rfl ?_; conv => whnf)
      | (refine DrawCall_view (fn44 x (2 * (i : Int) + 1) hx (by omega)) rfl 1 rfl ?_; conv => whnf)
      | (refine CallA_v (fn43 s.wear (turnF x (2 * (i : Int) + 1)) (by omega) (turnF_in hx _).1) rfl rfl ?_; conv => whnf)
      | (refine CallA_view (fn43 s.wear (turnF x (2 * (i : Int) + 1)) (by omega) (turnF_in hx _).1) rfl 1 rfl ?_; conv => whnf)
      | (refine DrawCall_v (fn43 s.wear (turnF x (2 * (i : Int) + 1)) (by omega) (turnF_in hx _).1) rfl rfl ?_; conv => whnf)
      | (refine DrawCall_view (fn43 s.wear (turnF x (2 * (i : Int) + 1)) (by omega) (turnF_in hx _).1) rfl 1 rfl ?_; conv => whnf)
      | (refine arith_in (wrap_i64 (by (try dsimp only); omega)) ?_; conv => whnf)
      | (refine elemK_nat (by assumption) ?_; conv => whnf)
      | (refine ownK_whole (by first | rfl | assumption | (simp [Els.len]; done) | (simp [Els.len]; omega)) ?_; conv => whnf)
      | (refine chk_i (by first | (simp [Els.len, Els.cons, V.cells, Els.toV, injL]; done) | (simp [Els.len, Els.cons, V.cells, Els.toV, injL]; omega)) ?_; conv => whnf)
      | fail)
    obtain ⟨n, en⟩ : ∃ n, n = amongF s.new (turnF x (2 * (i : Int))) := ⟨_, rfl⟩
    obtain ⟨w, ew⟩ : ∃ w, w = amongF s.wear (turnF x (2 * (i : Int) + 1)) := ⟨_, rfl⟩
    rw [← en] at hn ⊢
    rw [← ew] at hw ⊢
    replace h1 : e1 = _ := h1
    replace h3 : e2 = _ := h3
    replace h5 : e3 = _ := h5
    have l1 : e1.length = i := by rw [h1]; simp; omega
    have l2 : e2.length = i := by rw [h3]; simp; omega
    have l3 : e3.length = i := by rw [h5]; simp; omega
    refine LoopA_i (T := tys) tysOk (by exact drawsB_spec mixed tysOk (by decide +kernel)) s.gauges (fun k (g : List (List D) × Nat) => ⟨[(1, .d (wordsD x)), (2, .d (wordsD off)), (3, .ptr 3 0), (6, .ptr 6 0), (9, .sl 104 1 0 i), (10, .sl 108 1 0 i), (11, .sl 100 8 0 i), (12, .d (i64 i)),
          (13, .ptr 13 0), (14, .d (i64 n)), (15, .d (i64 w)), (16, .sl 94 2 0 g.2), (17, .d (i64 k))],
        [(3, .box (.dd c.cells)), (6, .box (.dd caseZ0)), (104, .arr 1 (.dd e1)), (108, .arr 1 (.dd e2)), (100, .arr 8 (.dd e3)), (13, .box (.dd s.cells)), (94, .arr 2 (.dd g.1))], st⟩)
      (fun k r g => g.1 = ((s.gauges.mapIdx (toldG c.chain.err off i s n w)).take k).map Gauge.cells ∧ k = g.2) ([], 0)
      ((Wk.born 16 94 2 rfl rfl rfl).trans (Wk.sub ⟨rfl, rfl, rfl, rfl, rfl, rfl, rfl, rfl, rfl, rfl, rfl, rfl, rfl, trivial⟩ ⟨rfl, rfl, rfl, rfl, rfl, rfl, rfl, trivial⟩)) ⟨rfl, rfl⟩ ?_ ?_
    · rintro k gg r' ⟨eg, kk⟩ hg hk hr' ⟨h7, h8⟩
      replace h7 : eg = _ := h7
      replace h8 : k = kk := h8
      subst h8
      have lk : eg.length = k := by rw [h7]; simp; omega
      have hgr := hs.gauges gg (List.mem_of_getElem? hg)
      have hwd : 0 ≤ w * (gg.day - s.set) := Int.mul_nonneg (by omega) (by omega)
      have hon : 0 ≤ onF s.set n w gg.day ∧ onF s.set n w gg.day ≤ n := by unfold onF; omega
      have htn := turnF_in ho (3 * (i : Int) + (k : Int))
      have ht1 := Int.emod_nonneg (turnF off (3 * (i : Int) + (k : Int))) (show 2 * c.chain.err + 1 ≠ 0 by omega)
      have ht2 := Int.emod_lt_of_pos (turnF off (3 * (i : Int) + (k : Int))) (show 0 < 2 * c.chain.err + 1 by omega)
      rw [← Int.tmod_eq_emod_of_nonneg htn.1] at ht1 ht2
      conv => whnf
      refine brk_i (fun _ => ?_) (fun h => absurd hk (by simpa using h))
      conv => whnf
      repeat' (first
        | (refine CallA_v (fn30 s n w gg.day (by unfold bd; omega) (by unfold bd; omega) (by unfold bd; omega) (by unfold bd; omega)) rfl rfl ?_; conv => whnf)
        | (refine CallA_view (fn30 s n w gg.day (by unfold bd; omega) (by unfold bd; omega) (by unfold bd; omega) (by unfold bd; omega)) rfl 1 rfl ?_; conv => whnf)
        | (refine DrawCall_v (fn30 s n w gg.day (by unfold bd; omega) (by unfold bd; omega) (by unfold bd; omega) (by unfold bd; omega)) rfl rfl ?_; conv => whnf)
        | (refine DrawCall_view (fn30 s n w gg.day (by unfold bd; omega) (by unfold bd; omega) (by unfold bd; omega) (by unfold bd; omega)) rfl 1 rfl ?_; conv => whnf)
        | (refine CallA_v (fn44 off (3 * (i : Int) + (k : Int)) ho (by omega)) rfl rfl ?_; conv => whnf)
        | (refine CallA_view (fn44 off (3 * (i : Int) + (k : Int)) ho (by omega)) rfl 1 rfl ?_; conv => whnf)
        | (refine DrawCall_v (fn44 off (3 * (i : Int) + (k : Int)) ho (by omega)) rfl rfl ?_; conv => whnf)
        | (refine DrawCall_view (fn44 off (3 * (i : Int) + (k : Int)) ho (by omega)) rfl 1 rfl ?_; conv => whnf)
        | (refine arith_in (wrap_i64 (by (try dsimp only); omega)) ?_; conv => whnf)
        | (refine elemK_nat (by assumption) ?_; conv => whnf)
        | (refine ownK_whole (by first | rfl | assumption | (simp [Els.len]; done) | (simp [Els.len]; omega)) ?_; conv => whnf)
        | (refine chk_i (by first | (simp [Els.len, Els.cons, V.cells, Els.toV, injL]; done) | (simp [Els.len, Els.cons, V.cells, Els.toV, injL]; omega)) ?_; conv => whnf)
        | fail)
      refine ⟨(_, _), ⟨?_, ?_⟩, (Wk.sub ⟨rfl, rfl, rfl, rfl, rfl, rfl, rfl, rfl, rfl, rfl, rfl, rfl, rfl, trivial⟩ ⟨rfl, rfl, rfl, rfl, rfl, rfl, rfl, trivial⟩)⟩
      · rw [h7]
        simp only [List.take_succ, List.map_append]
        simp [hg]
        rfl
      · simp [h7, Els.len]; omega
    · rintro ⟨eg, kk⟩ ⟨h7, h8⟩
      replace h7 : eg = _ := h7
      replace h8 : _ = kk := h8
      rw [List.take_of_length_le (by simp)] at h7
      subst h8
      conv => whnf
      refine brk_i (fun h => absurd h (by simp)) (fun _ => ?_)
      conv => whnf
      repeat' (first
        | (refine arith_in (wrap_i64 (by (try dsimp only); omega)) ?_; conv => whnf)
        | (refine elemK_nat (by assumption) ?_; conv => whnf)
        | (refine ownK_whole (by first | rfl | assumption | (simp [Els.len]; done) | (simp [Els.len]; omega)) ?_; conv => whnf)
        | (refine chk_i (by first | (simp [Els.len, Els.cons, V.cells, Els.toV, injL]; done) | (simp [Els.len, Els.cons, V.cells, Els.toV, injL]; omega)) ?_; conv => whnf)
        | fail)
      refine chk_i (by
        show (true && !nameBL 100 ((injL e3 ++ [_]).flatten)) = true
        rw [nameBL_injL]; rfl) ?_
      conv => whnf
      repeat' (first
        | (refine arith_in (wrap_i64 (by (try dsimp only); omega)) ?_; conv => whnf)
        | (refine elemK_nat (by assumption) ?_; conv => whnf)
        | (refine ownK_whole (by first | rfl | assumption | (simp [Els.len]; done) | (simp [Els.len]; omega)) ?_; conv => whnf)
        | (refine chk_i (by first | (simp [Els.len, Els.cons, V.cells, Els.toV, injL]; done) | (simp [Els.len, Els.cons, V.cells, Els.toV, injL]; omega)) ?_; conv => whnf)
        | fail)
      have hv7 : ∀ (h : Heap), get h 94 = some (.arr 2 (.dd eg)) → viewL (objD h 2) [.d (.str s.name), .d (i64 s.links), .d (i64 s.set), .d (i64 s.new.lo), .d (i64 s.new.hi), .d (i64 s.wear.lo), .d (i64 s.wear.hi), .sl 94 2 0 s.gauges.length] =
          some [.str s.name, i64 s.links, i64 s.set, i64 s.new.lo, i64 s.new.hi, i64 s.wear.lo, i64 s.wear.hi, .vs eg] := fun h hg =>
        viewL_app (a := [.str s.name, i64 s.links, i64 s.set, i64 s.new.lo, i64 s.new.hi, i64 s.wear.lo, i64 s.wear.hi]) (viewL_cons (viewV_sl hg (by rw [h7]; simp)) rfl)
      refine ⟨((_, _), (_, _), (_, _)), ⟨⟨?_, ?_⟩, ⟨?_, ?_⟩, ?_, ?_⟩, (Wk.frzArr 2 [94] 100 (vs := injL e3 ++ [[.d (.str s.name), .d (i64 s.links), .d (i64 s.set), .d (i64 s.new.lo), .d (i64 s.new.hi), .d (i64 s.wear.lo), .d (i64 s.wear.hi), .sl 94 2 0 s.gauges.length]]) (by
          show some (Obj.arr 8 (.vv (mapIdLL _ (mapIdLL _ (mapIdLL _ (mapIdLL _ (injL e3 ++ _))))))) = _
          rw [mapIdLL_injL, mapIdLL_injL, mapIdLL_injL, mapIdLL_injL]; rfl)
        (viewLL_app (viewLL_one (hv7 _ rfl)) e3)).trans (Wk.sub ⟨rfl, rfl, rfl, rfl, rfl, rfl, rfl, rfl, trivial⟩ ⟨rfl, rfl, rfl, rfl, rfl, trivial⟩)⟩
      · simp only [List.take_succ, List.map_append]
        simp [hsx, h1, toldN, en]
      · simp [Els.len, l1]
      · simp only [List.take_succ, List.map_append]
        simp [hsx, h3, toldW, ew]
      · simp [Els.len, l2]
      · simp only [List.take_succ, List.map_append]
        simp [hsx, h5]
        rw [h7, en, ew]
        rfl
      · simp [Els.len, Els.toV, injL, l3]
  · rintro ⟨⟨e1, k1⟩, ⟨e2, k2⟩, ⟨e3, k3⟩⟩ ⟨⟨h1, h2⟩, ⟨h3, h4⟩, h5, h6⟩
    replace h2 : _ = k1 := h2
    replace h4 : _ = k2 := h4
    replace h6 : _ = k3 := h6
    subst h2 h4 h6
    replace h1 : e1 = _ := h1
    replace h3 : e2 = _ := h3
    replace h5 : e3 = _ := h5
    rw [List.take_of_length_le (by simp)] at h1 h3 h5
    subst h1 h3 h5
    conv => whnf
    refine brk_i (fun h => absurd h (by simp)) (fun _ => ?_)
    conv => whnf
    refine RetA_view 3 (ds := [(toldC c x off).d, intsD (c.chain.shots.mapIdx (toldN x)), intsD (c.chain.shots.mapIdx (toldW x))]) (viewL_cons (viewV_agg (viewL_cons (viewV_sl' rfl ?_ ?_) (viewL_app (a := c.cells.tail) (r := []) rfl))) (viewL_cons (viewV_sl' rfl ?_ ?_) (viewL_cons (viewV_sl' rfl ?_ ?_) rfl))) ⟨⟨rfl, rfl⟩, rfl⟩
    · rfl
    · simp [toldC]
    · rfl
    · simp
    · rfl
    · simp
end Go.PX

namespace Go.PX
open Go.Proofs

theorem check_err {c : Case} {i day : Int} (h : (checkC c).2.2 ≠ 0) : (thickE c i day).2 ≠ 0 := by
  have ho : openE c i = (checkC c).2.2 := by unfold openE; rw [if_neg h]
  unfold thickE
  rw [ho, if_neg h]
  exact h

theorem open_in {c : Case} (h : (checkC c).2.2 = 0) {i : Nat} {s : Shot} (hs : c.chain.shots[i]? = some s) : openE c i = 0 := by
  have := (List.getElem?_eq_some_iff.1 hs).1
  unfold openE
  rw [if_pos h, if_pos (inB_iff.2 (by omega))]

theorem thick_in {c : Case} (h : (checkC c).2.2 = 0) {i : Nat} {s : Shot} (hs : c.chain.shots[i]? = some s) {day : Int} (hd : s.set ≤ day ∧ day ≤ 40000) :
    thickE c i day = if (rangeS s c.chain.err s.gauges day).2 then ((rangeS s c.chain.err s.gauges day).1, 0) else (⟨0, 0⟩, 9) := by
  unfold thickE
  rw [open_in h hs]
  simp [hs, inB_iff.2 hd]

def dayOn (s : Shot) (day : Int) : Int := s.set + day.tmod (40000 - s.set + 1)
theorem dayOn_in {s : Shot} {day : Int} (hs : 0 ≤ s.set ∧ s.set ≤ 40000) (hd : 0 ≤ day) : (0 ≤ day.tmod (40000 - s.set + 1) ∧ day.tmod (40000 - s.set + 1) ≤ 40000 - s.set) ∧ s.set ≤ dayOn s day ∧ dayOn s day ≤ 40000 := by
  unfold dayOn
  rw [Int.tmod_eq_emod_of_nonneg hd]
  have h1 := Int.emod_nonneg day (show 40000 - s.set + 1 ≠ 0 by omega)
  have h2 := Int.emod_lt_of_pos day (show 0 < 40000 - s.set + 1 by omega)
  omega

theorem fn5 (c : Case) (x off : List Int) (day : Int) (hx : wordOk x) (ho : wordOk off) (hd : 0 ≤ day ∧ day ≤ 65535) : FnV Try.prog 5 [c.d, .agg [wordsD x, wordsD off], .int .u16 day] (.bool true) := by
  refine fnV_of mixed tysOk Try.func5 rfl (ft := ft5) 3 (by decide +kernel) (by rfl) fun {σ} Y st => ?_
  conv => whnf
  refine CallA_v (ds := [c.d]) (fn14 c) rfl rfl ?_
  conv => whnf
  by_cases h0 : (checkC c).2.2 = 0
  · refine brk_i (fun h => absurd h (by simp [h0])) (fun _ => ?_)
    have hR := case_ok h0
    have hlen := hR.lens
    conv => whnf
    refine CallA_v (ds := [c.d, wordsD x, wordsD off]) (fn29 c x off hR hx ho) rfl rfl ?_
    conv => whnf
    have hz0 := told_ok h0 x off
    have hzR := case_ok hz0
    have hE : (toldC c x off).chain.err = c.chain.err := rfl
    have herr := hR.err
    have hgx : ∀ (i : Nat) (s : Shot), (toldC c x off).chain.shots[i]? = some s → ∃ s0, c.chain.shots[i]? = some s0 ∧ s = toldS c.chain.err x off i s0 := fun i s hs => by
      simp only [toldC, List.getElem?_mapIdx] at hs
      obtain ⟨s0, h1, h2⟩ := Option.map_eq_some_iff.1 hs
      exact ⟨s0, h1, h2.symm⟩
    have hzl : (toldC c x off).chain.shots.length = c.chain.shots.length := by simp [toldC]
    have hnl : (c.chain.shots.mapIdx (toldN x)).length = c.chain.shots.length := by simp
    have hwl : (c.chain.shots.mapIdx (toldW x)).length = c.chain.shots.length := by simp
    have hng : ∀ (i : Nat) (s0 : Shot), c.chain.shots[i]? = some s0 → (c.chain.shots.mapIdx (toldN x))[i]? = some (toldN x i s0) ∧ (c.chain.shots.mapIdx (toldW x))[i]? = some (toldW x i s0) := fun i s0 hs => by simp [hs]
    have hso : soundE (toldC c x off) = 0 := soundL_all fun s hs => by
      obtain ⟨i, hi⟩ := List.mem_iff_getElem?.1 hs
      obtain ⟨s0, h1, rfl⟩ := hgx i s hi
      exact (told_range (hR.shots s0 (List.mem_of_getElem? h1)).1 (by omega) hx ho _).1
    generalize toldC c x off = z at *
    generalize c.chain.shots.mapIdx (toldN x) = nl at *
    generalize c.chain.shots.mapIdx (toldW x) = wl at *
    refine LoopA_i (T := tys) tysOk (by exact drawsB_spec mixed tysOk (by decide +kernel)) z.chain.shots (fun i (_ : Unit) => ⟨[(2, .d (.int .u16 day)), (6, .d (.bool false)), (12, .ptr 12 0), (13, .d (intsD nl)), (14, .d (intsD wl)), (15, .d (i64 i))],
        [(12, .box (.dd z.cells))], st⟩) (fun i r _ => True) () (Wk.sub ⟨rfl, rfl, rfl, rfl, rfl, rfl, trivial⟩ ⟨rfl, trivial⟩) trivial ?_ ?_
    · intro i s r _ hsx hi hr _
      obtain ⟨s0, hs0, hse⟩ := hgx i s hsx
      obtain ⟨g1, g2⟩ := hng i s0 hs0
      have hs := (hzR.shots s (List.mem_of_getElem? hsx)).1
      have hs0R := (hR.shots s0 (List.mem_of_getElem? hs0)).1
      have hset := hs.set
      have hdy := dayOn_in (day := day) hs.set hd.1
      have hth := thick_in hz0 hsx (day := dayOn s day) hdy.2
      obtain ⟨r1, r2, r3⟩ := told_range (err := c.chain.err) (x := x) (off := off) (i := i) hs0R (by omega) hx ho (dayOn s day)
      rw [← hse] at r1 r2 r3
      have hes : s0.set = s.set := by rw [hse]; rfl
      rw [hes] at r2 r3
      rw [hE, r1, if_pos rfl] at hth
      have hdq : doubtsE z i = [] := by
        unfold doubtsE
        rw [if_pos (open_in hz0 hsx)]
        simp only [Int.toNat_natCast, hsx]
        refine doubtsQ_nil ?_
        obtain ⟨q, hq, _⟩ := told_truth (err := c.chain.err) (x := x) (off := off) (i := i) hs0R (by omega) hx ho
        rw [← hse] at hq
        rw [hE]
        exact List.ne_nil_of_mem hq
      have hn := amongF_in (s := s0.new) hs0R.new.2.1 (turnF_in hx (2 * (i : Int))).1
      have hw := amongF_in (s := s0.wear) hs0R.wear.2.1 (turnF_in hx (2 * (i : Int) + 1)).1
      have hnw := hs0R.new
      have hww := hs0R.wear
      have en : amongF s0.new (turnF x (2 * (i : Int))) = toldN x i s0 := rfl
      have ew : amongF s0.wear (turnF x (2 * (i : Int) + 1)) = toldW x i s0 := rfl
      rw [en] at hn
      rw [ew] at hw
      generalize toldN x i s0 = n at *
      generalize toldW x i s0 = w at *
      have ed : s.set + day.tmod (40000 - s.set + 1) = dayOn s day := rfl
      conv => whnf
      refine brk_i (fun _ => ?_) (fun h => absurd hi (by simpa using h))
      conv => whnf
      repeat' (first
        | (refine arith_in (wrap_i64 (by (try dsimp only); omega)) ?_; conv => whnf)
        | (refine elemK_nat (by assumption) ?_; conv => whnf)
        | (refine ownK_whole (by first | rfl | assumption | (simp [Els.len]; done) | (simp [Els.len]; omega)) ?_; conv => whnf)
        | (refine chk_i (by first | (simp [Els.len, Els.cons, V.cells, Els.toV, injL]; done) | (simp [Els.len, Els.cons, V.cells, Els.toV, injL]; omega)) ?_; conv => whnf)
        | fail)
      rw [ed]
      generalize dayOn s day = dn at *
      generalize (rangeS s c.chain.err s.gauges dn).1 = b at *
      have hop := open_in hz0 hsx
      repeat' (first
        | (refine CallA_v (fn15 z i dn) rfl rfl ?_; conv => whnf)
        | (refine CallA_view (fn15 z i dn) rfl 1 rfl ?_; conv => whnf)
        | (refine DrawCall_v (fn15 z i dn) rfl rfl ?_; conv => whnf)
        | (refine DrawCall_view (fn15 z i dn) rfl 1 rfl ?_; conv => whnf)
        | (refine CallA_v (fn17 z i) rfl rfl ?_; conv => whnf)
        | (refine CallA_view (fn17 z i) rfl 1 rfl ?_; conv => whnf)
        | (refine DrawCall_v (fn17 z i) rfl rfl ?_; conv => whnf)
        | (refine DrawCall_view (fn17 z i) rfl 1 rfl ?_; conv => whnf)
        | (refine CallA_v (fn30 s n w dn (by unfold bd; omega) (by unfold bd; omega) (by unfold bd; omega) (by unfold bd; omega)) rfl rfl ?_; conv => whnf)
        | (refine CallA_view (fn30 s n w dn (by unfold bd; omega) (by unfold bd; omega) (by unfold bd; omega) (by unfold bd; omega)) rfl 1 rfl ?_; conv => whnf)
        | (refine DrawCall_v (fn30 s n w dn (by unfold bd; omega) (by unfold bd; omega) (by unfold bd; omega) (by unfold bd; omega)) rfl rfl ?_; conv => whnf)
        | (refine DrawCall_view (fn30 s n w dn (by unfold bd; omega) (by unfold bd; omega) (by unfold bd; omega) (by unfold bd; omega)) rfl 1 rfl ?_; conv => whnf)
        | (rw [hth]; conv => whnf)
        | (rw [hdq]; conv => whnf)
        | (rw [hop]; conv => whnf)
        | (rw [decide_eq_false (show ¬ onF s.set n w dn < b.lo by omega)]; conv => whnf)
        | (rw [decide_eq_false (show ¬ b.hi < onF s.set n w dn by omega)]; conv => whnf)
        | (refine arith_in (wrap_i64 (by (try dsimp only); omega)) ?_; conv => whnf)
        | (refine elemK_nat (by assumption) ?_; conv => whnf)
        | (refine ownK_whole (by first | rfl | assumption | (simp [Els.len]; done) | (simp [Els.len]; omega)) ?_; conv => whnf)
        | (refine chk_i (by first | (simp [Els.len, Els.cons, V.cells, Els.toV, injL]; done) | (simp [Els.len, Els.cons, V.cells, Els.toV, injL]; omega)) ?_; conv => whnf)
        | fail)
      exact ⟨(), trivial, (Wk.sub ⟨rfl, rfl, rfl, rfl, rfl, rfl, trivial⟩ ⟨rfl, trivial⟩)⟩
    · intro _ _
      conv => whnf
      refine brk_i (fun h => absurd h (by simp)) (fun _ => ?_)
      conv => whnf
      obtain ⟨s, hs⟩ : ∃ s, z.chain.shots[0]? = some s := ⟨_, List.getElem?_eq_getElem (by omega)⟩
      have hb : (bearsE z 0).2 = 0 := by
        have hl : lookE z (openE z 0) = 0 := by
          rw [show openE z 0 = 0 from open_in hz0 hs]
          simp [lookE, hso]
        have ht : (thickL z)[0]? = _ := thick_get hs
        unfold bearsE
        rw [if_pos hl]
        simp [ht]
      refine CallA_v (fn20 z 0) rfl rfl ?_
      conv => whnf
      rw [hb]
      conv => whnf
      refine CallA_v (fn22) rfl rfl ?_
      conv => whnf
      exact RetA_view 0 rfl ⟨⟨rfl, rfl⟩, rfl⟩
  · have hne := check_err (i := 0) (day := 0) h0
    refine brk_i (fun _ => ?_) (fun h => absurd h (by simpa using h0))
    conv => whnf
    refine CallA_v (fn15 c 0 0) rfl rfl ?_
    conv => whnf
    rw [decide_eq_false hne]
    conv => whnf
    refine CallA_v (fn22) rfl rfl ?_
    conv => whnf
    exact RetA_view 0 rfl ⟨⟨rfl, rfl⟩, rfl⟩
end Go.PX

namespace Go.PX
open Go.Proofs

theorem truths_sub {s s' : Shot} {off : Int} {gs gs' : List Gauge} (e1 : s'.set = s.set) (e2 : s'.new = s.new) (e3 : s'.wear = s.wear) (hn : s.new.lo ≤ s.new.hi) (hsub : ∀ g ∈ gs, g ∈ gs') {t : Int × (Int × Int)} (ht : t ∈ truthsS s' off gs') :
    ∃ t0 ∈ truthsS s off gs, t0.1 = t.1 ∧ t0.2.1 ≤ t.2.1 ∧ t.2.2 ≤ t0.2.2 := by
  unfold truthsS at ht ⊢
  rw [e1, e2, e3] at ht
  obtain ⟨h1, h2, h3⟩ := truths_fit.1 ht
  have hle := fitsF_le (p := (s.new.lo, s.new.hi)) hn h3
  obtain ⟨q1, q2, hq⟩ : ∃ q1 q2, t.2 = (q1, q2) := ⟨_, _, rfl⟩
  have hlo := (fits_iff (n := t.2.1)).1 ⟨t.2, h3, by omega, hle.2.1⟩
  have hhi := (fits_iff (n := t.2.2)).1 ⟨t.2, h3, hle.2.1, by omega⟩
  obtain ⟨q, k1, k2, k3⟩ := (fits_iff (gs := gs)).2 ⟨hlo.1, hlo.2.1, fun g hg => hlo.2.2 g (hsub g hg)⟩
  obtain ⟨q', k4, k5, k6⟩ := (fits_iff (gs := gs)).2 ⟨hhi.1, hhi.2.1, fun g hg => hhi.2.2 g (hsub g hg)⟩
  rw [k1] at k4
  cases k4
  exact ⟨(t.1, q), truths_fit.2 ⟨h1, h2, k1⟩, rfl, k2, k6⟩

theorem range_sub {s s' : Shot} {off day : Int} {gs gs' : List Gauge} (e1 : s'.set = s.set) (e2 : s'.new = s.new) (e3 : s'.wear = s.wear) (hn : s.new.lo ≤ s.new.hi) (hsub : ∀ g ∈ gs, g ∈ gs') (h : (rangeS s' off gs' day).2 = true) :
    (rangeS s off gs day).2 = true ∧ (rangeS s off gs day).1.lo ≤ (rangeS s' off gs' day).1.lo ∧ (rangeS s' off gs' day).1.hi ≤ (rangeS s off gs day).1.hi := by
  rw [rangeS_some] at h
  have hne : truthsS s' off gs' ≠ [] := by intro he; rw [he] at h; simp at h
  obtain ⟨_, _, ⟨t, ht, hl⟩, ⟨u, hu, hh⟩⟩ := range_spec s' off gs' day hne
  obtain ⟨t0, ht0, a1, a2, _⟩ := truths_sub e1 e2 e3 hn hsub ht
  obtain ⟨u0, hu0, b1, _, b3⟩ := truths_sub e1 e2 e3 hn hsub hu
  obtain ⟨g1, g2, _, _⟩ := range_spec s off gs day (List.ne_nil_of_mem ht0)
  have c1 := (g2 t0 ht0).1
  have c2 := (g2 u0 hu0).2
  rw [hl, hh, e1]
  rw [a1] at c1
  rw [b1] at c2
  exact ⟨g1, Int.le_trans c1 (onF_mono a2), Int.le_trans (onF_mono b3) c2⟩

/-- A case whose shot has other gaugings. -/
def withC (c : Case) (i : Nat) (g : List Gauge) : Case := { c with chain := { c.chain with shots := c.chain.shots.modify i fun s => { s with gauges := g } } }

theorem withC_get {c : Case} {i : Nat} {s : Shot} (hs : c.chain.shots[i]? = some s) (g : List Gauge) : (withC c i g).chain.shots[i]? = some { s with gauges := g } := by
  simp [withC, List.getElem?_modify, hs]

theorem thick_kind {c : Case} (h : (checkC c).2.2 = 0) {i : Nat} {s : Shot} (hs : c.chain.shots[i]? = some s) {day : Int} (hd : s.set ≤ day ∧ day ≤ 40000) : (thickE c i day).2 = 0 ∨ (thickE c i day).2 = 9 := by
  have ho : openE c i = 0 := by
    have := (List.getElem?_eq_some_iff.1 hs).1
    unfold openE
    rw [if_pos h, if_pos (inB_iff.2 (by omega))]
  unfold thickE
  rw [ho]
  simp only [if_true, Int.toNat_natCast, hs, inB_iff.2 hd]
  split
  · left; rfl
  · right; rfl
end Go.PX

namespace Go.PX
open Go.Proofs

theorem map_modify {α β : Type} (h : α → β) {l : List α} {i : Nat} {s : α} (hs : l[i]? = some s) (f : α → α) : (l.map h).set i (h (f s)) = (l.modify i f).map h := by
  refine List.ext_getElem? fun k => ?_
  obtain ⟨hi, hse⟩ := List.getElem?_eq_some_iff.1 hs
  simp only [List.getElem?_set, List.length_map, List.getElem?_map, List.getElem?_modify]
  by_cases hk : i = k
  · subst hk
    simp [hi, hse]
  · simp [hk]

theorem fn31 (c : Case) (i : Nat) (s : Shot) (g : List Gauge) (hR : CaseR c) (hs : c.chain.shots[i]? = some s) : FnV Try.prog 31 [c.d, i64 i, gaugesD g] (withC c i g).d := by
  refine fnV_of mixed tysOk Try.func31 rfl (ft := ft31) 3 (by decide +kernel) (by rfl) fun {σ} Y st => ?_
  conv => whnf
  have hlen := hR.lens
  have hi := (List.getElem?_eq_some_iff.1 hs).1
  repeat' (first
    | (refine arith_in (wrap_i64 (by (try dsimp only); omega)) ?_; conv => whnf)
    | (refine elemK_nat (by assumption) ?_; conv => whnf)
    | (refine ownK_whole (by first | rfl | assumption | (simp [Els.len]; done) | (simp [Els.len]; omega)) ?_; conv => whnf)
    | (refine chk_i (by first | (simp [Els.len, Els.cons, V.cells, Els.toV, injL]; done) | (simp [Els.len, Els.cons, V.cells, Els.toV, injL]; omega)) ?_; conv => whnf)
    | fail)
  refine chk_i (by
    show (lenAllD 8 (c.chain.shots.map Shot.cells) && true) = true
    rw [lenAllD_map (fun x => ⟨rfl, rfl⟩)]; rfl) ?_
  conv => whnf
  repeat' (first
    | (refine arith_in (wrap_i64 (by (try dsimp only); omega)) ?_; conv => whnf)
    | (refine elemK_nat (by assumption) ?_; conv => whnf)
    | (refine ownK_whole (by first | rfl | assumption | (simp [Els.len]; done) | (simp [Els.len]; omega)) ?_; conv => whnf)
    | (refine chk_i (by first | (simp [Els.len, Els.cons, V.cells, Els.toV, injL]; done) | (simp [Els.len, Els.cons, V.cells, Els.toV, injL]; omega)) ?_; conv => whnf)
    | fail)
  refine cellK_i s.cells (by simp [hs]) ?_
  conv => whnf
  refine RetA_view 3 (ds := [(withC c i g).d]) (viewL_cons (viewV_agg (viewL_cons (viewV_sl' rfl ?_ ?_) (viewL_app (a := c.cells.tail) (r := []) rfl))) rfl) ⟨⟨rfl, rfl⟩, rfl⟩
  · refine Eq.trans ?_ (map_modify Shot.cells hs fun s => { s with gauges := g })
    show ([] ++ c.chain.shots.map Shot.cells).set (0 + (i : Int).toNat) _ = _
    rw [List.nil_append, Nat.zero_add, Int.toNat_natCast]
    rfl
  · simp [withC, Els.len]
end Go.PX
