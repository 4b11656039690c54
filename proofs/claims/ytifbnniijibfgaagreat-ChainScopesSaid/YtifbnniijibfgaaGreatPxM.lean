import Derived.Test.YtifbnniijibfgaaGreatPxL
import Derived.Test.YtifbnniijibfgaaGreatPxG
set_option linter.all false
set_option maxRecDepth 10000
namespace Go.PX
open Go.Proofs

theorem fold_range {set day : Int} : ∀ (l : List (Int × (Int × Int))) (acc : Span × Bool), acc.2 = true →
    (l.foldl (thickStep set day) acc).2 = true ∧ (l.foldl (thickStep set day) acc).1.lo ≤ acc.1.lo ∧ acc.1.hi ≤ (l.foldl (thickStep set day) acc).1.hi ∧
    (∀ t ∈ l, (l.foldl (thickStep set day) acc).1.lo ≤ onF set t.2.1 t.1 day ∧ onF set t.2.2 t.1 day ≤ (l.foldl (thickStep set day) acc).1.hi) ∧
    ((l.foldl (thickStep set day) acc).1.lo = acc.1.lo ∨ ∃ t ∈ l, (l.foldl (thickStep set day) acc).1.lo = onF set t.2.1 t.1 day) ∧
    ((l.foldl (thickStep set day) acc).1.hi = acc.1.hi ∨ ∃ t ∈ l, (l.foldl (thickStep set day) acc).1.hi = onF set t.2.2 t.1 day)
  | [], acc, h => by simp [h]
  | t :: r, acc, h => by
    rw [List.foldl_cons]
    have hs : thickStep set day acc t = (⟨min acc.1.lo (onF set t.2.1 t.1 day), max acc.1.hi (onF set t.2.2 t.1 day)⟩, true) := by simp [thickStep, h]
    obtain ⟨h1, h2, h3, h4, h5, h6⟩ := fold_range r (thickStep set day acc t) (by rw [hs])
    have e1 : (thickStep set day acc t).1.lo = min acc.1.lo (onF set t.2.1 t.1 day) := by rw [hs]
    have e2 : (thickStep set day acc t).1.hi = max acc.1.hi (onF set t.2.2 t.1 day) := by rw [hs]
    rw [e1] at h2 h5
    rw [e2] at h3 h6
    generalize r.foldl (thickStep set day) (thickStep set day acc t) = F at *
    refine ⟨h1, by clear h5 h6; omega, by clear h5 h6; omega, fun u hu => ?_, ?_, ?_⟩
    · clear h5 h6
      rcases List.mem_cons.1 hu with rfl | hu
      · omega
      · exact h4 u hu
    · clear h6
      rcases h5 with h5 | ⟨u, hu, h5⟩
      · by_cases hc : acc.1.lo ≤ onF set t.2.1 t.1 day
        · left; omega
        · right; exact ⟨t, by simp, by omega⟩
      · right; exact ⟨u, by simp [hu], h5⟩
    · clear h5
      rcases h6 with h6 | ⟨u, hu, h6⟩
      · by_cases hc : onF set t.2.2 t.1 day ≤ acc.1.hi
        · left; omega
        · right; exact ⟨t, by simp, by omega⟩
      · right; exact ⟨u, by simp [hu], h6⟩

/-- The range over the truths: its bounds, and that they are reached. -/
theorem range_spec (s : Shot) (off : Int) (gs : List Gauge) (day : Int) (h : truthsS s off gs ≠ []) :
    (rangeS s off gs day).2 = true ∧ (∀ t ∈ truthsS s off gs, (rangeS s off gs day).1.lo ≤ onF s.set t.2.1 t.1 day ∧ onF s.set t.2.2 t.1 day ≤ (rangeS s off gs day).1.hi) ∧
    (∃ t ∈ truthsS s off gs, (rangeS s off gs day).1.lo = onF s.set t.2.1 t.1 day) ∧ (∃ t ∈ truthsS s off gs, (rangeS s off gs day).1.hi = onF s.set t.2.2 t.1 day) := by
  rw [rangeS_fold]
  generalize truthsS s off gs = l at *
  cases l with
  | nil => exact absurd rfl h
  | cons t r =>
    rw [List.foldl_cons]
    have hs : thickStep s.set day (⟨0, 0⟩, false) t = (⟨onF s.set t.2.1 t.1 day, onF s.set t.2.2 t.1 day⟩, true) := by simp [thickStep]
    rw [hs]
    obtain ⟨h1, h2, h3, h4, h5, h6⟩ := fold_range r (⟨onF s.set t.2.1 t.1 day, onF s.set t.2.2 t.1 day⟩, true) rfl
    generalize r.foldl (thickStep s.set day) (⟨onF s.set t.2.1 t.1 day, onF s.set t.2.2 t.1 day⟩, true) = F at *
    refine ⟨h1, fun u hu => ?_, ?_, ?_⟩
    · rcases List.mem_cons.1 hu with rfl | hu
      · exact ⟨h2, h3⟩
      · exact h4 u hu
    · rcases h5 with h5 | ⟨u, hu, h5⟩
      · exact ⟨t, by simp, h5⟩
      · exact ⟨u, by simp [hu], h5⟩
    · rcases h6 with h6 | ⟨u, hu, h6⟩
      · exact ⟨t, by simp, h6⟩
      · exact ⟨u, by simp [hu], h6⟩

theorem onF_mono {set a b wear day : Int} (h : a ≤ b) : onF set a wear day ≤ onF set b wear day := by
  unfold onF
  omega

theorem truths_fit {set off : Int} {new : Int × Int} {gs : List Gauge} : ∀ {n : Nat} {wear : Int} {t : Int × (Int × Int)}, t ∈ truthsL set off new gs n wear ↔ (wear ≤ t.1 ∧ t.1 < wear + n ∧ fitsF set off t.1 new gs = some t.2)
  | 0, wear, t => by simp [truthsL]; omega
  | n + 1, wear, t => by
    simp only [truthsL]
    cases hf : fitsF set off wear new gs with
    | none =>
      simp only [truths_fit (n := n)]
      constructor
      · rintro ⟨h1, h2, h3⟩; exact ⟨by omega, by omega, h3⟩
      · rintro ⟨h1, h2, h3⟩
        have : wear ≠ t.1 := by rintro rfl; rw [hf] at h3; cases h3
        exact ⟨by omega, by omega, h3⟩
    | some f =>
      simp only [List.mem_cons, truths_fit (n := n)]
      constructor
      · rintro (rfl | ⟨h1, h2, h3⟩)
        · exact ⟨by simp, by simp; omega, hf⟩
        · exact ⟨by omega, by omega, h3⟩
      · rintro ⟨h1, h2, h3⟩
        by_cases he : t.1 = wear
        · left
          rw [he, hf] at h3
          cases h3
          exact Prod.ext he rfl
        · right
          exact ⟨by omega, by omega, h3⟩

theorem range_le {s : Shot} {off : Int} {gs : List Gauge} {day : Int} (hs : s.new.lo ≤ s.new.hi) (h : (rangeS s off gs day).2 = true) : (rangeS s off gs day).1.lo ≤ (rangeS s off gs day).1.hi := by
  rw [rangeS_some] at h
  have hne : truthsS s off gs ≠ [] := by
    intro he; rw [he] at h; simp at h
  obtain ⟨_, h2, ⟨t, ht, hl⟩, _⟩ := range_spec s off gs day hne
  have h3 := h2 t ht
  obtain ⟨_, _, hf⟩ := truths_fit.1 ht
  have hle := fitsF_le (p := (s.new.lo, s.new.hi)) hs hf
  have := onF_mono (set := s.set) (wear := t.1) (day := day) hle.2.1
  omega

/-! What a gauging says of a truth. -/

/-- A thickness at first agrees with a gauging, if the wear is known. -/
def agreeG (set off wear : Int) (g : Gauge) (n : Int) : Prop := (g.shown > off → g.shown - off + wear * (g.day - set) ≤ n) ∧ n ≤ g.shown + off + wear * (g.day - set)

theorem fits_iff {set off wear : Int} : ∀ {gs : List Gauge} {p : Int × Int} {n : Int}, (∃ q, fitsF set off wear p gs = some q ∧ q.1 ≤ n ∧ n ≤ q.2) ↔ (p.1 ≤ n ∧ n ≤ p.2 ∧ ∀ g ∈ gs, agreeG set off wear g n)
  | [], p, n => by simp [fitsF]
  | g :: r, p, n => by
    simp only [fitsF, List.forall_mem_cons]
    have hstep : (∃ q, fitStep set off wear p g = some q ∧ q.1 ≤ n ∧ n ≤ q.2) ↔ (p.1 ≤ n ∧ n ≤ p.2 ∧ agreeG set off wear g n) := by
      unfold fitStep agreeG
      simp only
      constructor
      · rintro ⟨q, hq, h1, h2⟩
        by_cases hg : g.shown > off
        · simp only [if_pos hg] at hq
          split at hq
          · cases hq
          · obtain rfl := Option.some.inj hq
            simp only at h1 h2
            exact ⟨by omega, by omega, fun _ => by omega, by omega⟩
        · simp only [if_neg hg] at hq
          split at hq
          · cases hq
          · obtain rfl := Option.some.inj hq
            simp only at h1 h2
            exact ⟨by omega, by omega, fun h => absurd h hg, by omega⟩
      · rintro ⟨h1, h2, h3, h4⟩
        by_cases hg : g.shown > off
        · have := h3 hg
          simp only [if_pos hg]
          rw [if_neg (by omega)]
          exact ⟨_, rfl, by simp only; omega, by simp only; omega⟩
        · simp only [if_neg hg]
          rw [if_neg (by omega)]
          exact ⟨_, rfl, by simp only; omega, by simp only; omega⟩
    cases hs : fitStep set off wear p g with
    | none =>
      constructor
      · rintro ⟨q, hq, _⟩; cases hq
      · rintro ⟨h1, h2, h3, _⟩
        obtain ⟨q, hq, _⟩ := hstep.2 ⟨h1, h2, h3⟩
        rw [hs] at hq; cases hq
    | some q =>
      simp only
      rw [fits_iff (gs := r)]
      constructor
      · rintro ⟨h1, h2, h3⟩
        obtain ⟨k1, k2, k3⟩ := hstep.1 ⟨q, hs, h1, h2⟩
        exact ⟨k1, k2, k3, h3⟩
      · rintro ⟨h1, h2, h3, h4⟩
        obtain ⟨q', hq, k1, k2⟩ := hstep.2 ⟨h1, h2, h3⟩
        rw [hs] at hq; cases hq
        exact ⟨k1, k2, h4⟩
end Go.PX

namespace Go.PX
open Go.Proofs

theorem outL_false : ∀ {l : List Span} {ts : List Int}, (∀ (i : Nat) (s : Span) (n : Int), l[i]? = some s → ts[i]? = some n → s.lo ≤ n ∧ n ≤ s.hi) → outL l ts = false
  | [], ts, _ => by cases ts <;> rfl
  | s :: l, [], _ => rfl
  | s :: l, n :: ts, h => by
    have h0 := h 0 s n rfl rfl
    simp only [outL, Bool.or_eq_false_iff, Bool.not_eq_false', inB_iff]
    exact ⟨h0, outL_false fun i s' n' h1 h2 => h (i + 1) s' n' (by simpa using h1) (by simpa using h2)⟩

/-- Any truth of a weather, by turns. -/
def anyT (c : Case) (w : Weather) (x : List Int) : Truth :=
  ⟨amongF w.depth (turnF x 0), amongF w.wind (turnF x 1), amongF w.current (turnF x 2), amongF w.swell (turnF x 3), amongF c.chain.hold (turnF x 4), (thickL c).mapIdx fun i s => amongF s (turnF x (5 + (i : Int)))⟩

theorem sound_le {c : Case} (hR : CaseR c) (hs : soundE c = 0) : ∀ s ∈ thickL c, s.lo ≤ s.hi := by
  intro s h
  obtain ⟨x, hx, rfl⟩ := List.mem_map.1 h
  exact range_le ((hR.look hx).shot.new.2.2.2.2) ((soundL_zero hs).2 x hx |> fun h => h)

theorem any_ok {c : Case} (hR : CaseR c) (hs : soundE c = 0) {w : Weather} (hw : w ∈ c.weathers) {x : List Int} (hx : wordOk x) :
    (anyT c w x).thick.length = c.chain.shots.length ∧ outL (bandsL c w) (valsL (anyT c w x)) = false ∧ Calmer (anyT c w x) (worstT c (thickL c) w) := by
  obtain ⟨hd, hwi, hcu, hsw⟩ := hR.weathers w hw
  have hh := hR.hold
  have h0 := amongF_in (s := w.depth) (by omega) (turnF_in hx 0).1
  have h1 := amongF_in (s := w.wind) (by omega) (turnF_in hx 1).1
  have h2 := amongF_in (s := w.current) (by omega) (turnF_in hx 2).1
  have h3 := amongF_in (s := w.swell) (by omega) (turnF_in hx 3).1
  have h4 := amongF_in (s := c.chain.hold) (by omega) (turnF_in hx 4).1
  refine ⟨by simp [anyT, thickL], ?_, ?_⟩
  · simp only [bandsL, valsL, anyT, List.cons_append, List.nil_append, outL, Bool.or_eq_false_iff, Bool.not_eq_false', inB_iff]
    refine ⟨h0, h1, h2, h3, h4, outL_false fun i s n hi hn => ?_⟩
    rw [List.getElem?_mapIdx, hi] at hn
    simp only [Option.map_some, Option.some.injEq] at hn
    subst hn
    exact amongF_in (sound_le hR hs s (List.mem_of_getElem? hi)) (turnF_in hx _).1
  · refine ⟨?_, ?_, ?_, ?_, ?_, by simp [anyT, worstT], fun k a b ha hb => ?_⟩
    · simp only [worstT, anyT]; omega
    · simp only [worstT, anyT]; omega
    · simp only [worstT, anyT]; omega
    · simp only [worstT, anyT]; omega
    · simp only [worstT, anyT]; omega
    · simp only [anyT, List.getElem?_mapIdx] at ha
      simp only [worstT, List.getElem?_map] at hb
      cases hk : (thickL c)[k]? with
      | none => rw [hk] at hb; cases hb
      | some s =>
        rw [hk] at ha hb
        simp only [Option.map_some, Option.some.injEq] at ha hb
        subst ha hb
        have hm := List.mem_of_getElem? hk
        have := (moor_ok hR).th s hm
        have := amongF_in (sound_le hR hs s hm) (turnF_in hx (5 + (k : Int))).1
        omega

theorem worst_in {c : Case} (hR : CaseR c) (hs : soundE c = 0) {w : Weather} (hw : w ∈ c.weathers) :
    (worstT c (thickL c) w).thick.length = c.chain.shots.length ∧ outL (bandsL c w) (valsL (worstT c (thickL c) w)) = false := by
  obtain ⟨hd, hwi, hcu, hsw⟩ := hR.weathers w hw
  have hh := hR.hold
  refine ⟨by simp [worstT, thickL], ?_⟩
  simp only [bandsL, valsL, worstT, List.cons_append, List.nil_append, outL, Bool.or_eq_false_iff, Bool.not_eq_false', inB_iff]
  refine ⟨by omega, by omega, by omega, by omega, by omega, outL_false fun i s n hi hn => ?_⟩
  rw [List.getElem?_map, hi] at hn
  simp only [Option.map_some, Option.some.injEq] at hn
  subst hn
  exact ⟨Int.le_refl _, sound_le hR hs s (List.mem_of_getElem? hi)⟩

theorem breakL_zero {c : Case} {th : List Span} {out : Int} : ∀ {l : List Weather} {i : Int}, (breakL c th out l i).1 = 0 → breakL c th out l i = (0, 0, 0)
  | [], i, _ => rfl
  | w :: r, i, h => by
    simp only [breakL] at h ⊢
    by_cases h1 : (judgeW c th out w).1 = 0
    · rw [if_neg (by simp [h1])] at h ⊢
      exact breakL_zero h
    · rw [if_pos h1] at h
      exact absurd h h1

/-- The error of a truth of a weather. -/
def truthE (c : Case) (w : Weather) (t : Truth) : Int := if t.thick.length = c.chain.shots.length then (if outL (bandsL c w) (valsL t) then 7 else 0) else 3

theorem goE_bad {c : Case} (h : (checkC c).2.2 = 0) {i : Nat} {w : Weather} (hw : c.weathers[i]? = some w) {out : Int} (ho : 1 ≤ out ∧ out ≤ linksF c.chain.shots) : goE c out (badAt c i) = 0 := by
  have := (List.getElem?_eq_some_iff.1 hw).1
  have hb : badAt c i = false := by
    unfold badAt
    rw [inB_iff.2 (by omega)]; rfl
  rw [hb]
  unfold goE
  rw [if_neg (by simp [h]), if_neg (by simp), if_pos (inB_iff.2 ho)]

theorem in_ok {c : Case} (h : (checkC c).2.2 = 0) (hs : soundE c = 0) {i : Nat} {w : Weather} (hw : c.weathers[i]? = some w) {out : Int} (ho : 1 ≤ out ∧ out ≤ linksF c.chain.shots) {t : Truth} (hl : t.thick.length = c.chain.shots.length)
    (hb : outL (bandsL c w) (valsL t) = false) : inE c i out t = (judgeF c t out, 0) := by
  unfold inE
  rw [goE_bad h hw ho, if_pos (by simp [lookE, hs]), if_pos hl]
  simp [hw, hb]

theorem show_ok {c : Case} (h : (checkC c).2.2 = 0) (hs : soundE c = 0) {i : Nat} {w : Weather} (hw : c.weathers[i]? = some w) {out : Int} (ho : 1 ≤ out ∧ out ≤ linksF c.chain.shots) :
    showE c i out = ((worstT c (thickL c) w).d, judgeW c (thickL c) out w, 0) := by
  unfold showE
  rw [goE_bad h hw ho, if_pos (by simp [lookE, hs])]
  simp [hw]

theorem why_err {c : Case} (h : soundAll c ≠ 0) : (whyE c 1).2 = soundAll c := by
  unfold whyE
  unfold soundAll at h ⊢
  by_cases h0 : (checkC c).2.2 = 0
  · have hl := links_ok (case_ok h0)
    have hg : goE c 1 false = 0 := by
      unfold goE
      rw [if_neg (by simp [h0]), if_neg (by simp), if_pos (inB_iff.2 (by omega))]
    rw [h0] at h
    rw [hg, h0, if_neg h]
  · have hg : goE c 1 false = (checkC c).2.2 := by
      unfold goE
      rw [if_pos h0]
    rw [hg, if_neg h]
end Go.PX

namespace Go.PX
open Go.Proofs

theorem CaseR.rng {c : Case} (h : CaseR c) {s : Shot} (hs : s ∈ c.chain.shots) : FnV Tryz.prog 64 [s.d, i64 c.chain.err, gaugesD s.gauges, i64 c.day] (.tup [(rangeS s c.chain.err s.gauges c.day).1.d, .bool (rangeS s c.chain.err s.gauges c.day).2]) := by
  have hk := h.look hs
  have := h.day
  exact fun {σ} => fn60 s c.chain.err s.gauges c.day hk.off hk.shot hk.gok hk.len (by omega)

theorem fn36 (c : Case) (w : Weather) (t : Truth) (hR : CaseR c) : FnV Tryz.prog 38 [c.d, w.d, t.d] (i64 (truthE c w t)) := by
  refine fnV_of mixed tysOk Tryz.func38 rfl (ft := ft38) 3 (by decide +kernel) (by rfl) fun {σ} Y st => ?_
  conv => whnf
  by_cases hl : t.thick.length = c.chain.shots.length
  · have hE : truthE c w t = if outL (bandsL c w) (valsL t) then 7 else 0 := by unfold truthE; rw [if_pos hl]
    have hlen := hR.lens
    rw [hE]
    simp only [bandsL, valsL, List.cons_append, List.nil_append, outL]
    refine brk_i (fun h => absurd h (by simp [hl])) (fun _ => ?_)
    conv => whnf
    cases h1 : inB t.depth w.depth.lo w.depth.hi with
    | false =>
      repeat' (first
        | (refine CallA_v (fn55 _ _ _) rfl rfl ?_; conv => whnf)
        | (refine CallA_view (fn55 _ _ _) rfl 1 rfl ?_; conv => whnf)
        | (refine DrawCall_v (fn55 _ _ _) rfl rfl ?_; conv => whnf)
        | (refine DrawCall_view (fn55 _ _ _) rfl 1 rfl ?_; conv => whnf)
        | (rw [h1]; conv => whnf)
        | (refine arith_in (wrap_i64 (by (try dsimp only); omega)) ?_; conv => whnf)
        | (refine elemK_nat (by assumption) ?_; conv => whnf)
        | (refine ownK_whole (by first | rfl | assumption | (simp [Els.len]; done) | (simp [Els.len]; omega)) ?_; conv => whnf)
        | (refine chk_i (by first | (simp [Els.len, Els.cons, V.cells]; done) | (simp [Els.len, Els.cons, V.cells]; omega)) ?_; conv => whnf)
        | fail)
      exact RetA_view 0 rfl ⟨⟨rfl, rfl⟩, rfl⟩
    | true =>
    cases h2 : inB t.wind w.wind.lo w.wind.hi with
    | false =>
      repeat' (first
        | (refine CallA_v (fn55 _ _ _) rfl rfl ?_; conv => whnf)
        | (refine CallA_view (fn55 _ _ _) rfl 1 rfl ?_; conv => whnf)
        | (refine DrawCall_v (fn55 _ _ _) rfl rfl ?_; conv => whnf)
        | (refine DrawCall_view (fn55 _ _ _) rfl 1 rfl ?_; conv => whnf)
        | (rw [h1]; conv => whnf)
        | (rw [h2]; conv => whnf)
        | (refine arith_in (wrap_i64 (by (try dsimp only); omega)) ?_; conv => whnf)
        | (refine elemK_nat (by assumption) ?_; conv => whnf)
        | (refine ownK_whole (by first | rfl | assumption | (simp [Els.len]; done) | (simp [Els.len]; omega)) ?_; conv => whnf)
        | (refine chk_i (by first | (simp [Els.len, Els.cons, V.cells]; done) | (simp [Els.len, Els.cons, V.cells]; omega)) ?_; conv => whnf)
        | fail)
      exact RetA_view 0 rfl ⟨⟨rfl, rfl⟩, rfl⟩
    | true =>
    cases h3 : inB t.current w.current.lo w.current.hi with
    | false =>
      repeat' (first
        | (refine CallA_v (fn55 _ _ _) rfl rfl ?_; conv => whnf)
        | (refine CallA_view (fn55 _ _ _) rfl 1 rfl ?_; conv => whnf)
        | (refine DrawCall_v (fn55 _ _ _) rfl rfl ?_; conv => whnf)
        | (refine DrawCall_view (fn55 _ _ _) rfl 1 rfl ?_; conv => whnf)
        | (rw [h1]; conv => whnf)
        | (rw [h2]; conv => whnf)
        | (rw [h3]; conv => whnf)
        | (refine arith_in (wrap_i64 (by (try dsimp only); omega)) ?_; conv => whnf)
        | (refine elemK_nat (by assumption) ?_; conv => whnf)
        | (refine ownK_whole (by first | rfl | assumption | (simp [Els.len]; done) | (simp [Els.len]; omega)) ?_; conv => whnf)
        | (refine chk_i (by first | (simp [Els.len, Els.cons, V.cells]; done) | (simp [Els.len, Els.cons, V.cells]; omega)) ?_; conv => whnf)
        | fail)
      exact RetA_view 0 rfl ⟨⟨rfl, rfl⟩, rfl⟩
    | true =>
    cases h4 : inB t.swell w.swell.lo w.swell.hi with
    | false =>
      repeat' (first
        | (refine CallA_v (fn55 _ _ _) rfl rfl ?_; conv => whnf)
        | (refine CallA_view (fn55 _ _ _) rfl 1 rfl ?_; conv => whnf)
        | (refine DrawCall_v (fn55 _ _ _) rfl rfl ?_; conv => whnf)
        | (refine DrawCall_view (fn55 _ _ _) rfl 1 rfl ?_; conv => whnf)
        | (rw [h1]; conv => whnf)
        | (rw [h2]; conv => whnf)
        | (rw [h3]; conv => whnf)
        | (rw [h4]; conv => whnf)
        | (refine arith_in (wrap_i64 (by (try dsimp only); omega)) ?_; conv => whnf)
        | (refine elemK_nat (by assumption) ?_; conv => whnf)
        | (refine ownK_whole (by first | rfl | assumption | (simp [Els.len]; done) | (simp [Els.len]; omega)) ?_; conv => whnf)
        | (refine chk_i (by first | (simp [Els.len, Els.cons, V.cells]; done) | (simp [Els.len, Els.cons, V.cells]; omega)) ?_; conv => whnf)
        | fail)
      exact RetA_view 0 rfl ⟨⟨rfl, rfl⟩, rfl⟩
    | true =>
    cases h5 : inB t.hold c.chain.hold.lo c.chain.hold.hi with
    | false =>
      repeat' (first
        | (refine CallA_v (fn55 _ _ _) rfl rfl ?_; conv => whnf)
        | (refine CallA_view (fn55 _ _ _) rfl 1 rfl ?_; conv => whnf)
        | (refine DrawCall_v (fn55 _ _ _) rfl rfl ?_; conv => whnf)
        | (refine DrawCall_view (fn55 _ _ _) rfl 1 rfl ?_; conv => whnf)
        | (rw [h1]; conv => whnf)
        | (rw [h2]; conv => whnf)
        | (rw [h3]; conv => whnf)
        | (rw [h4]; conv => whnf)
        | (rw [h5]; conv => whnf)
        | (refine arith_in (wrap_i64 (by (try dsimp only); omega)) ?_; conv => whnf)
        | (refine elemK_nat (by assumption) ?_; conv => whnf)
        | (refine ownK_whole (by first | rfl | assumption | (simp [Els.len]; done) | (simp [Els.len]; omega)) ?_; conv => whnf)
        | (refine chk_i (by first | (simp [Els.len, Els.cons, V.cells]; done) | (simp [Els.len, Els.cons, V.cells]; omega)) ?_; conv => whnf)
        | fail)
      exact RetA_view 0 rfl ⟨⟨rfl, rfl⟩, rfl⟩
    | true =>
      repeat' (first
        | (refine CallA_v (fn55 _ _ _) rfl rfl ?_; conv => whnf)
        | (refine CallA_view (fn55 _ _ _) rfl 1 rfl ?_; conv => whnf)
        | (refine DrawCall_v (fn55 _ _ _) rfl rfl ?_; conv => whnf)
        | (refine DrawCall_view (fn55 _ _ _) rfl 1 rfl ?_; conv => whnf)
        | (rw [h1]; conv => whnf)
        | (rw [h2]; conv => whnf)
        | (rw [h3]; conv => whnf)
        | (rw [h4]; conv => whnf)
        | (rw [h5]; conv => whnf)
        | (refine arith_in (wrap_i64 (by (try dsimp only); omega)) ?_; conv => whnf)
        | (refine elemK_nat (by assumption) ?_; conv => whnf)
        | (refine ownK_whole (by first | rfl | assumption | (simp [Els.len]; done) | (simp [Els.len]; omega)) ?_; conv => whnf)
        | (refine chk_i (by first | (simp [Els.len, Els.cons, V.cells]; done) | (simp [Els.len, Els.cons, V.cells]; omega)) ?_; conv => whnf)
        | fail)
      simp only [Bool.not_true, Bool.false_or]
      refine LoopA_i (T := tys) tysOk (by exact drawsB_spec mixed tysOk (by decide +kernel)) t.thick (fun i (_ : Unit) => ⟨[(3, .ptr 3 0), (5, .ptr 5 0), (6, .d (i64 0)), (7, .d (i64 i))], [(3, .box (.dd c.cells)), (5, .box (.dd t.cells))], st⟩)
        (fun i r _ => outL (thickL c) t.thick = outL ((thickL c).drop i) r) ()
        (Wk.sub ⟨rfl, rfl, rfl, rfl, trivial⟩ ⟨rfl, rfl, trivial⟩) rfl ?_ ?_
      · intro i x r _ hx hi hr he
        have hi2 : i < c.chain.shots.length := by omega
        obtain ⟨s, hsx⟩ : ∃ s, c.chain.shots[i]? = some s := ⟨_, List.getElem?_eq_getElem hi2⟩
        have htx := thick_get hsx
        have hm := List.mem_of_getElem? hsx
        have hti : i < (thickL c).length := by simp [thickL]; exact hi2
        rw [List.drop_eq_getElem_cons hti, outL] at he
        rw [List.getElem?_eq_getElem hti] at htx
        rw [Option.some.inj htx] at he
        conv => whnf
        refine brk_i (fun _ => ?_) (fun h => absurd hi (by simpa using h))
        conv => whnf
        refine elemK_nat hsx ?_
        conv => whnf
        refine elemK_nat hsx ?_
        conv => whnf
        refine DrawCall_v (ds := [s.d, i64 c.chain.err, gaugesD s.gauges, i64 c.day]) (hR.rng hm) rfl rfl ?_
        conv => whnf
        generalize (rangeS s c.chain.err s.gauges c.day).1 = b at *
        refine elemK_nat hx ?_
        conv => whnf
        cases h6 : inB x b.lo b.hi with
        | false =>
          simp only [h6, Bool.not_false, Bool.true_or] at he
          repeat' (first
            | (refine CallA_v (fn55 _ _ _) rfl rfl ?_; conv => whnf)
            | (refine CallA_view (fn55 _ _ _) rfl 1 rfl ?_; conv => whnf)
            | (refine DrawCall_v (fn55 _ _ _) rfl rfl ?_; conv => whnf)
            | (refine DrawCall_view (fn55 _ _ _) rfl 1 rfl ?_; conv => whnf)
            | (rw [h6]; conv => whnf)
            | (refine arith_in (wrap_i64 (by (try dsimp only); omega)) ?_; conv => whnf)
            | (refine elemK_nat (by assumption) ?_; conv => whnf)
            | (refine ownK_whole (by first | rfl | assumption | (simp [Els.len]; done) | (simp [Els.len]; omega)) ?_; conv => whnf)
            | (refine chk_i (by first | (simp [Els.len, Els.cons, V.cells]; done) | (simp [Els.len, Els.cons, V.cells]; omega)) ?_; conv => whnf)
            | fail)
          rw [if_pos he]
          exact RetA_view 0 rfl ⟨⟨rfl, rfl⟩, rfl⟩
        | true =>
          simp only [h6, Bool.not_true, Bool.false_or] at he
          repeat' (first
            | (refine CallA_v (fn55 _ _ _) rfl rfl ?_; conv => whnf)
            | (refine CallA_view (fn55 _ _ _) rfl 1 rfl ?_; conv => whnf)
            | (refine DrawCall_v (fn55 _ _ _) rfl rfl ?_; conv => whnf)
            | (refine DrawCall_view (fn55 _ _ _) rfl 1 rfl ?_; conv => whnf)
            | (rw [h6]; conv => whnf)
            | (refine arith_in (wrap_i64 (by (try dsimp only); omega)) ?_; conv => whnf)
            | (refine elemK_nat (by assumption) ?_; conv => whnf)
            | (refine ownK_whole (by first | rfl | assumption | (simp [Els.len]; done) | (simp [Els.len]; omega)) ?_; conv => whnf)
            | (refine chk_i (by first | (simp [Els.len, Els.cons, V.cells]; done) | (simp [Els.len, Els.cons, V.cells]; omega)) ?_; conv => whnf)
            | fail)
          exact ⟨(), he, (Wk.sub ⟨rfl, rfl, rfl, rfl, trivial⟩ ⟨rfl, rfl, trivial⟩)⟩
      · intro _ he
        have he : outL (thickL c) t.thick = false := by rw [he]; cases (thickL c).drop t.thick.length <;> rfl
        rw [if_neg (by simp [he])]
        conv => whnf
        refine brk_i (fun h => absurd h (by simp)) (fun _ => ?_)
        conv => whnf
        exact RetA_view 0 rfl ⟨⟨rfl, rfl⟩, rfl⟩
  · have hE : truthE c w t = 3 := by unfold truthE; rw [if_neg hl]
    rw [hE]
    refine brk_i (fun _ => ?_) (fun h => absurd h (by simp; omega))
    conv => whnf
    exact RetA_view 0 rfl ⟨⟨rfl, rfl⟩, rfl⟩

def anyA (c : Case) (w : Weather) (x : List Int) : List D := [i64 (amongF w.depth (turnF x 0)), i64 (amongF w.wind (turnF x 1)), i64 (amongF w.current (turnF x 2)), i64 (amongF w.swell (turnF x 3)), i64 (amongF c.chain.hold (turnF x 4))]

end Go.PX

/- PX: a call by value whose arguments are frozen for good. -/
namespace Go.PX

def delL : List Nat → List Wr
  | [] => []
  | i :: r => .del i :: delL r

theorem applyWs_delL {σ : Type} : ∀ (l : List Nat) (st : St σ), applyWs st (delL l) = ⟨st.env, cutL st.heap l, st.s⟩
  | [], st => rfl
  | i :: r, st => by
    show applyWs (applyW st (.del i)) (delL r) = _
    rw [applyWs_delL r]; rfl

theorem applyWs_append {σ : Type} : ∀ (a b : List Wr) (st : St σ), applyWs st (a ++ b) = applyWs (applyWs st a) b
  | [], b, st => rfl
  | w :: a, b, st => applyWs_append a b (applyW st w)

section
variable {P : Program} {σ : Type}

/-- The objects of a part are frozen for good. -/
theorem Good.frzPart {cx : Cx σ} {r : Option Nat} {m : List Nat} {L : Loc} {F : Nat → Nat} {st : St σ} {a : Act} {w : World} (hg : Good cx r m L F st a w) {h : Heap} (hsub : SubT h st.heap) (n : Nat) :
    ∃ F1, Good cx r m L F1 (applyWs st (delL (keysOf h))) a w ∧ Tr F w F1 w ∧ ∀ args vals ds, viewL (objD h n) args = some ds → RepVL cx.yv L F w args vals → RepDL F1 w ds vals := by
  have hok : HeapOk cx L F h st.s w := (hg.sub (e := st.env) (h := h) (fun _ _ h => h) hsub).heap
  have tr := frzAll_tr hok
  have hF1C : ∀ b, cx.C st.s b → frzAll L F h w b = F b := fun b hb => frzAll_C hok hb
  have hF1o : ∀ id o, get st.heap id = some o → id ∉ keysOf h → Backed L id o → frzAll L F h w (L.ρ id) = F (L.ρ id) := by
    intro id o hi hn hb
    refine frzAll_other ?_
    rintro ⟨j, p, hj, hbj, hij⟩
    have := hg.heap.inj j id p o (hsub j p hj) hi hbj hb hij
    subst this
    exact hn (keysOf_mem hj)
  have hfr := frzAll_fresh hok
  have hobj := objD_t hok n
  generalize frzAll L F h w = F1 at tr hF1C hF1o hfr hobj
  rw [applyWs_delL]
  have hget : ∀ i o, get (cutL st.heap (keysOf h)) i = some o → i ∉ keysOf h ∧ get st.heap i = some o := by
    intro i o hi
    rw [get_cutL] at hi
    split at hi
    · cases hi
    · rename_i hn; exact ⟨hn, hi⟩
  refine ⟨F1, ⟨⟨cx.stable hg.heap.hg tr hfr fun b hb => ⟨rfl, hF1C b hb⟩, hg.heap.csz, hfr, ?_, ?_, ?_⟩, ?_, hg.dfr, hg.mks, hg.mnd, hg.lk, hg.pin, hg.tsz⟩, tr, fun args vals ds hv hr => viewL_t tr hobj args vals ds hv hr⟩
  · intro i o hi
    exact RepO.mono tr i o (fun _ _ => ⟨rfl, rfl⟩) ⟨rfl, rfl⟩ (fun _ => rfl) (hg.heap.obj i o (hget i o hi).2)
  · intro i o hi hb
    obtain ⟨hn, h0⟩ := hget i o hi
    rw [hF1o i o h0 hn hb]
    exact hg.heap.own i o h0 hb
  · intro i j o p hi hj hbi hbj he
    exact hg.heap.inj i j o p (hget i o hi).2 (hget j p hj).2 hbi hbj he
  · intro t v ht
    obtain ⟨x, hx, hr⟩ := hg.env t v ht
    exact ⟨x, hx, RepV.mono tr v x (fun _ _ => ⟨rfl, rfl⟩) hr⟩

/-- A call by value; what is handed over is data from then on. -/
theorem outCall_fz {f : FuncId} {ds : List D} {res : D} (hf : FnV P f ds res) (n : Nat) {e : Env} {h : Heap} {d : Option Nat} {args : List V} (hv : viewL (objD h n) args = some ds) (hd : Nat.ble (d.getD 0) 10000 = true) :
    OutCall P e h d f args (delL (keysOf h) ++ wset d (.d res)) := by
  have ho := outCall_v (P := P) hf (e := []) (h := []) (d := d) (args := inj ds) rfl hd
  refine ⟨ho.1, fun {σ} cx r m L F st a w vals he hh hg hdt hr => ?_⟩
  obtain ⟨F1, hg1, tr1, hvw⟩ := hg.frzPart hh n
  rw [applyWs_append]
  refine (ho.2 cx r m L F1 (applyWs st (delL (keysOf h))) a w vals (fun _ _ h => by cases h) (fun _ _ h => by cases h) hg1 hdt (RepVL.inj.2 (hvw _ _ _ hv hr))).mono ?_
  rintro en w' ⟨x, rfl, L', F', hg', tr'⟩
  exact ⟨x, rfl, L', F', hg', Tr.trans tr1 tr'⟩

theorem CallA_fz {Y : Hd σ} {f : FuncId} {ds : List D} {res : D} (hf : FnV P f ds res) (n : Nat) {e : Env} {h : Heap} {s : σ} {d : Option Nat} {args : List V} (ids : List Nat) (hv : viewL (objD (keepT ids h) n) args = some ds) (hd : Nat.ble (d.getD 0) 10000 = true)
    {K : St σ → Prop} (hk : applyK (delL (keysOf (keepT ids h)) ++ wset d (.d res)) e h fun e h => K ⟨e, h, s⟩) : CallA P Y ⟨e, h, s⟩ d f args K := by
  have ho := outCall_fz (P := P) hf n (e := e) (h := keepT ids h) (d := d) (args := args) hv hd
  refine CallA_out (ws := delL (keysOf (keepT ids h)) ++ wset d (.d res)) ⟨ho.1, fun {σ} cx r m L F st a w vals he hh hg hdt hr => ?_⟩ hk
  exact ho.2 cx r m L F st a w vals he (fun i o hi => hh i o (sub_keepT ids h i o hi)) hg hdt hr

theorem DrawCall_fz {f : FuncId} {ds : List D} {res : D} (hf : FnV P f ds res) (n : Nat) {e : Env} {h : Heap} {d : Option Nat} {args : List V} (hv : viewL (objD h n) args = some ds) (hd : Nat.ble (d.getD 0) 10000 = true)
    {K : List Wr → Prop} (hk : K (delL (keysOf h) ++ wset d (.d res))) : DrawCall P e h d f args K := ⟨_, hk, outCall_fz hf n hv hd⟩
end
end Go.PX

namespace Go.PX
open Go.Proofs

theorem word_cons {l : List Int} {n : Int} (hn : 0 ≤ n ∧ n ≤ 65535) (h : wordOk l) : wordOk (n :: l) := fun m hm => by
  rcases List.mem_cons.1 hm with rfl | hm
  · exact hn
  · exact h m hm

end Go.PX

namespace Go.PX
open Go.Proofs

/-! A told chain: its gaugings are made of a truth. -/

def toldN (x : List Int) (i : Nat) (s : Shot) : Int := amongF s.new (turnF x (2 * (i : Int)))
def toldW (x : List Int) (i : Nat) (s : Shot) : Int := amongF s.wear (turnF x (2 * (i : Int) + 1))
def toldG (err : Int) (off : List Int) (i : Nat) (s : Shot) (n w : Int) (k : Nat) (g : Gauge) : Gauge :=
  ⟨g.day, max 0 (min 60000 (onF s.set n w g.day + (turnF off (3 * (i : Int) + (k : Int))).tmod (2 * err + 1) - err))⟩
def toldS (err : Int) (x off : List Int) (i : Nat) (s : Shot) : Shot := { s with gauges := s.gauges.mapIdx (toldG err off i s (toldN x i s) (toldW x i s)) }
def toldC (c : Case) (x off : List Int) : Case := { c with chain := { c.chain with shots := c.chain.shots.mapIdx (toldS c.chain.err x off) } }

theorem gaugesL_map {set : Int} : ∀ {l : List Gauge} {last : Int} {f : Nat → Gauge → Gauge}, (∀ k g, (f k g).day = g.day ∧ 0 ≤ (f k g).shown ∧ (f k g).shown ≤ 60000) → gaugesL set last l = 0 → gaugesL set last (l.mapIdx f) = 0
  | [], _, _, _, _ => by simp [gaugesL]
  | g :: r, last, f, hf, h => by
    obtain ⟨h1, h2⟩ := hf 0 g
    rw [List.mapIdx_cons]
    simp only [gaugesL] at h ⊢
    rw [h1]
    split at h
    · rename_i hin
      simp only [Bool.and_eq_true, inB_iff] at hin
      rw [if_pos (by simp only [Bool.and_eq_true, inB_iff]; omega)]
      split at h
      · exact absurd h (by decide)
      · rename_i hlt
        rw [if_neg hlt]
        exact gaugesL_map (fun k g => hf (k + 1) g) h
    · exact absurd h (by decide)

theorem checkF_iff {s : Shot} : checkF s = 0 ↔ ((1 ≤ s.links ∧ s.links ≤ 40) ∧ (0 ≤ s.set ∧ s.set ≤ 40000) ∧ (1 ≤ s.new.lo ∧ s.new.lo ≤ s.new.hi ∧ s.new.hi ≤ 60000) ∧ (0 ≤ s.wear.lo ∧ s.wear.lo ≤ s.wear.hi ∧ s.wear.hi ≤ 20)) ∧ s.gauges.length ≤ 6 ∧ gaugesL s.set s.set s.gauges = 0 := by
  unfold checkF
  split
  · rename_i h1
    simp only [Bool.and_eq_true, inB_iff] at h1
    split
    · exact ⟨fun h => absurd h (by decide), fun h => by omega⟩
    · split
      · exact ⟨fun h => absurd h (by decide), fun h => by omega⟩
      · exact ⟨fun h => ⟨by omega, by omega, h⟩, fun h => h.2.2⟩
  · rename_i h1
    refine ⟨fun h => absurd h (by decide), fun h => absurd ?_ h1⟩
    simp only [Bool.and_eq_true, inB_iff]
    omega

theorem told_shot {err : Int} {x off : List Int} {i : Nat} {s : Shot} (h : checkF s = 0) : checkF (toldS err x off i s) = 0 := by
  rw [checkF_iff] at h ⊢
  refine ⟨h.1, by simpa [toldS] using h.2.1, gaugesL_map (fun k g => ?_) h.2.2⟩
  exact ⟨rfl, Int.le_max_left _ _, Int.max_le.2 ⟨by omega, Int.min_le_left _ _⟩⟩

theorem told_ok {c : Case} (h : (checkC c).2.2 = 0) (x off : List Int) : (checkC (toldC c x off)).2.2 = 0 := by
  have hG := (check_iff c).1 h
  refine (check_iff _).2 ⟨?_, ?_, ?_, hG.rows, hG.ship, hG.day, hG.wlen, hG.weathers⟩
  · have hp := plain_iff.1 hG.plain
    refine plain_iff.2 ⟨?_, hp.2⟩
    show 1 ≤ (c.chain.shots.mapIdx (toldS c.chain.err x off)).length ∧ (c.chain.shots.mapIdx (toldS c.chain.err x off)).length ≤ 7
    rw [List.length_mapIdx]; exact hp.1
  · intro s hs
    obtain ⟨i, hi, rfl⟩ := List.mem_mapIdx.1 hs
    have := hG.shots c.chain.shots[i] (List.getElem_mem ..)
    exact ⟨⟨this.1.1, told_shot this.1.2⟩, this.2⟩
  · have hn := hG.names
    rw [List.pairwise_iff_getElem] at hn ⊢
    intro i j hi hj hij
    have hi' : i < c.chain.shots.length := by simpa [toldC] using hi
    have hj' : j < c.chain.shots.length := by simpa [toldC] using hj
    have := hn i j hi' hj' hij
    simpa [toldC, toldS] using this

theorem told_truth {err : Int} {x off : List Int} {i : Nat} {s : Shot} (hs : ShotR s) (he : 0 ≤ err) (hx : wordOk x) (ho : wordOk off) :
    ∃ q, (toldW x i s, q) ∈ truthsS (toldS err x off i s) err (toldS err x off i s).gauges ∧ q.1 ≤ toldN x i s ∧ toldN x i s ≤ q.2 := by
  have hn := amongF_in (s := s.new) hs.new.2.1 (turnF_in hx (2 * (i : Int))).1
  have hw := amongF_in (s := s.wear) hs.wear.2.1 (turnF_in hx (2 * (i : Int) + 1)).1
  have hnr := hs.new
  have hwr := hs.wear
  have hg := hs.gauges
  have key : ∀ g ∈ (toldS err x off i s).gauges, agreeG s.set err (toldW x i s) g (toldN x i s) := by
    intro g' hg'
    obtain ⟨k, hk, rfl⟩ := List.mem_mapIdx.1 hg'
    have hgk := hg s.gauges[k] (List.getElem_mem ..)
    generalize s.gauges[k] = g at *
    have ht := (turnF_in ho (3 * (i : Int) + (k : Int))).1
    have h1 := Int.emod_nonneg (turnF off (3 * (i : Int) + (k : Int))) (show 2 * err + 1 ≠ 0 by omega)
    have h2 := Int.emod_lt_of_pos (turnF off (3 * (i : Int) + (k : Int))) (show 0 < 2 * err + 1 by omega)
    rw [← Int.tmod_eq_emod_of_nonneg ht] at h1 h2
    have hL : 0 ≤ toldW x i s * (g.day - s.set) := Int.mul_nonneg (by unfold toldW; omega) (by omega)
    have hN : toldN x i s ≤ 60000 := by unfold toldN; omega
    unfold agreeG toldG onF
    simp only
    generalize (turnF off (3 * (i : Int) + (k : Int))).tmod (2 * err + 1) = o at *
    generalize toldW x i s * (g.day - s.set) = L at *
    generalize toldN x i s = n at *
    constructor
    · intro h; omega
    · omega
  obtain ⟨q, hq, h1, h2⟩ := (fits_iff (p := (s.new.lo, s.new.hi)) (n := toldN x i s)).2 ⟨by unfold toldN; exact hn.1, by unfold toldN; exact hn.2, key⟩
  exact ⟨q, truths_fit.2 ⟨by show s.wear.lo ≤ toldW x i s; unfold toldW; omega, by show toldW x i s < s.wear.lo + ((s.wear.hi + 1 - s.wear.lo).toNat : Int); unfold toldW; omega, hq⟩, h1, h2⟩

theorem told_range {err : Int} {x off : List Int} {i : Nat} {s : Shot} (hs : ShotR s) (he : 0 ≤ err) (hx : wordOk x) (ho : wordOk off) (day : Int) :
    (rangeS (toldS err x off i s) err (toldS err x off i s).gauges day).2 = true ∧ (rangeS (toldS err x off i s) err (toldS err x off i s).gauges day).1.lo ≤ onF s.set (toldN x i s) (toldW x i s) day ∧
      onF s.set (toldN x i s) (toldW x i s) day ≤ (rangeS (toldS err x off i s) err (toldS err x off i s).gauges day).1.hi := by
  obtain ⟨q, hq, h1, h2⟩ := told_truth (err := err) (x := x) (off := off) (i := i) hs he hx ho
  obtain ⟨h3, h4, _, _⟩ := range_spec (toldS err x off i s) err (toldS err x off i s).gauges day (List.ne_nil_of_mem hq)
  have h5 := h4 _ hq
  have m1 := onF_mono (set := s.set) (wear := toldW x i s) (day := day) h1
  have m2 := onF_mono (set := s.set) (wear := toldW x i s) (day := day) h2
  have e : (toldS err x off i s).set = s.set := rfl
  rw [e] at h5
  exact ⟨h3, Int.le_trans h5.1 m1, Int.le_trans m2 h5.2⟩

theorem soundL_all {off day : Int} : ∀ {l : List Shot}, (∀ s ∈ l, (rangeS s off s.gauges day).2 = true) → soundL off day l 0 = 0
  | [], _ => rfl
  | s :: r, h => by
    simp only [soundL, if_true]
    rw [h s (by simp)]
    simp only [if_true]
    exact soundL_all fun x hx => h x (by simp [hx])

theorem withoutF_nil {α : Type} : ∀ (l : List α) (i : Int), withoutF [] l i = l
  | [], _ => rfl
  | x :: r, i => by simp [withoutF, withoutF_nil r]

theorem doubtsQ_nil {s : Shot} {off : Int} (h : truthsS s off s.gauges ≠ []) : doubtsQ s off = [] := by
  unfold doubtsQ chooseF
  rw [List.range'_succ, List.findSome?_cons]
  have : (doubtW s off []).2 = true := by
    unfold doubtW
    rw [withoutF_nil]
    simpa using h
  simp [fillF, this]
end Go.PX

/- PX: objects are frozen, one that holds them is data from then on. -/
namespace Go.PX

theorem viewLL_app {g : Nat → Option DO} {vs : List (List V)} {ds : List (List D)} (h : viewLL g vs = some ds) : ∀ (es : List (List D)), viewLL g (injL es ++ vs) = some (es ++ ds)
  | [] => h
  | e :: r => by
    show viewLL g (inj e :: (injL r ++ vs)) = _
    rw [viewLL, viewLL_app h r]
    have : viewL g (inj e) = some e := by
      have := viewL_app (g := g) (a := e) (r := []) (r' := []) rfl
      simpa using this
    rw [this]; rfl

theorem viewLL_one {g : Nat → Option DO} {v : List V} {d : List D} (h : viewL g v = some d) : viewLL g [v] = some [d] := by
  rw [viewLL, h]; rfl

theorem nameBL_inj (i : Nat) : ∀ l : List D, nameBL i (inj l) = false
  | [] => rfl
  | d :: r => by
    show (nameB i (.d d) || nameBL i (inj r)) = false
    rw [nameBL_inj i r]; rfl

theorem nameBL_append (i : Nat) : ∀ a b : List V, nameBL i (a ++ b) = (nameBL i a || nameBL i b)
  | [], b => rfl
  | v :: a, b => by
    show (nameB i v || nameBL i (a ++ b)) = ((nameB i v || nameBL i a) || nameBL i b)
    rw [nameBL_append i a b, Bool.or_assoc]

theorem nameBL_injL (i : Nat) (vs : List (List V)) : ∀ es : List (List D), nameBL i ((injL es ++ vs).flatten) = nameBL i vs.flatten
  | [] => rfl
  | e :: r => by
    show nameBL i (inj e ++ (injL r ++ vs).flatten) = _
    rw [nameBL_append, nameBL_inj, nameBL_injL i vs r]; rfl

theorem mapIdLL_injL (f : V → V) (vs : List (List V)) : ∀ es : List (List D), mapIdLL f (injL es ++ vs) = injL es ++ mapIdLL f vs
  | [] => rfl
  | e :: r => by
    show mapIdL f (inj e) :: mapIdLL f (injL r ++ vs) = _
    rw [mapIdL_inj, mapIdLL_injL f vs r]; rfl

section
variable {σ : Type}

theorem delL_heap {e : Env} {h : Heap} {s : σ} (l : List Nat) : applyWs (⟨e, h, s⟩ : St σ) (delL l) = ⟨e, cutL h l, s⟩ := applyWs_delL l _

theorem keys_keep {α : Type} : ∀ (ids : List Nat) (t : Tab α) (i : Nat) (o : α), get (keepT ids t) i = some o → get t i = some o := fun ids t i o h => sub_keepT ids t i o h

/-- Objects are frozen; what holds them is data. -/
theorem Wk.frzArr {e : Env} {h : Heap} {s : σ} (n : Nat) (ids : List Nat) (k : Nat) {sz : Nat} {vs : List (List V)} {ds : List (List D)} (hk : get (cutL h (keysOf (keepT ids h))) k = some (.arr sz (.vv vs))) (hv : viewLL (objD (keepT ids h) n) vs = some ds) :
    Wk (⟨e, h, s⟩ : St σ) ⟨e, put (cutL h (keysOf (keepT ids h))) k (.arr sz (.dd ds)), s⟩ := by
  intro cx r m L F a w hg
  obtain ⟨F1, hg1, tr, hvw⟩ := hg.frzPart (h := keepT ids h) (sub_keepT ids h) n
  rw [delL_heap] at hg1
  have h0 : RepO cx.yv L F w k (.arr sz (.vv vs)) := by
    rw [get_cutL] at hk
    split at hk
    · cases hk
    · exact hg.heap.obj k _ hk
  obtain ⟨f1, f2, f3⟩ := viewLL_flat hv
  have hnew : RepO cx.yv L F1 w k (.arr sz (.dd ds)) := by
    obtain ⟨c1, c2, c3⟩ := h0
    have hl : (Els.dd ds).toV.length = ds.length := by rw [← Els.len_eq]; rfl
    have hflat : (Els.dd ds).toV.flatten = inj ds.flatten := by
      show (injL ds).flatten = _
      clear hl f1 f2 f3 hv
      induction ds with
      | nil => rfl
      | cons d r ih =>
        show inj d ++ (injL r).flatten = _
        rw [ih, List.flatten_cons, inj_append]
    refine ⟨c1, ?_, ?_⟩
    · have h3 := f3 sz c2
      intro x hx
      show x.length = sz
      have : ∀ (l : List (List D)), (∀ d ∈ l, d.length = sz) → ∀ x ∈ injL l, x.length = sz := by
        intro l
        induction l with
        | nil => intro _ x hx; cases hx
        | cons d r ih =>
          intro hd x hx
          rcases List.mem_cons.1 hx with rfl | hx
          · rw [inj_length]; exact hd d (by simp)
          · exact ih (fun d hd' => hd d (by simp [hd'])) x hx
      exact this ds h3 x hx
    · rcases c3 with ⟨c4, c5⟩ | ⟨c, T, c4, c5, c6, c7⟩
      · left
        refine ⟨?_, c5⟩
        have hvs : vs = [] := c4
        have : ds = [] := by
          have : ds.length = 0 := by rw [f2, hvs]; rfl
          exact List.length_eq_zero_iff.1 this
        rw [this]; rfl
      · right
        have e1 : (Els.vv vs).toV = vs := rfl
        rw [e1] at c6 c7
        refine ⟨c, T, c4, c5, by rw [hl, f2]; exact c6, ?_⟩
        rw [hflat, hl, f2]
        exact RepVL.inj.2 (hvw _ _ _ f1 c7)
  have key : ∀ i q, get (put (cutL h (keysOf (keepT ids h))) k (.arr sz (.dd ds))) i = some q → (i = k ∧ q = .arr sz (.dd ds)) ∨ get (cutL h (keysOf (keepT ids h))) i = some q := by
    intro i q hi
    rw [get_put] at hi
    split at hi
    · rename_i e1; cases hi; exact .inl ⟨e1, rfl⟩
    · exact .inr hi
  refine ⟨L, F1, ⟨⟨hg1.heap.hg, hg1.heap.csz, hg1.heap.fresh, fun i q hi => ?_, fun i q hi hbk => ?_, fun i j q p hi hj hbi hbj e => ?_⟩, hg1.env, hg1.dfr, hg1.mks, hg1.mnd, hg1.lk, hg1.pin, hg1.tsz⟩, tr⟩
  · rcases key i q hi with ⟨rfl, rfl⟩ | hi
    · exact hnew
    · exact hg1.heap.obj i q hi
  · rcases key i q hi with ⟨rfl, rfl⟩ | hi
    · exact hg1.heap.own i _ hk hbk
    · exact hg1.heap.own i q hi hbk
  · rcases key i q hi with ⟨e1, e2⟩ | hi1 <;> rcases key j p hj with ⟨e3, e4⟩ | hj1
    · rw [e1, e3]
    · subst e1; subst e2
      exact hg1.heap.inj _ _ _ _ hk hj1 hbi hbj e
    · subst e3; subst e4
      exact hg1.heap.inj _ _ _ _ hi1 hk hbi hbj e
    · exact hg1.heap.inj _ _ _ _ hi1 hj1 hbi hbj e
end
end Go.PX

namespace Go.PX
open Go.Proofs

def caseZ0 : List D := [.nils, i64 0, i64 0, i64 0, i64 0, i64 0, .nils, i64 0, i64 0, i64 0, i64 0, i64 0, .nils]

end Go.PX

namespace Go.PX
open Go.Proofs

theorem check_err {c : Case} {i day : Int} (h : (checkC c).2.2 ≠ 0) : (thickE c i day).2 ≠ 0 := by
  have ho : openE c i = (checkC c).2.2 := by unfold openE; rw [if_neg h]
  unfold thickE
  rw [ho, if_neg h]
  exact h

theorem open_in {c : Case} (h : (checkC c).2.2 = 0) {i : Nat} {s : Shot} (hs : c.chain.shots[i]? = some s) : openE c i = 0 := by
  have := (List.getElem?_eq_some_iff.1 hs).1
  unfold openE
  rw [if_pos h, if_pos (inB_iff.2 (by omega))]

theorem thick_in {c : Case} (h : (checkC c).2.2 = 0) {i : Nat} {s : Shot} (hs : c.chain.shots[i]? = some s) {day : Int} (hd : s.set ≤ day ∧ day ≤ 40000) :
    thickE c i day = if (rangeS s c.chain.err s.gauges day).2 then ((rangeS s c.chain.err s.gauges day).1, 0) else (⟨0, 0⟩, 9) := by
  unfold thickE
  rw [open_in h hs]
  simp [hs, inB_iff.2 hd]

def dayOn (s : Shot) (day : Int) : Int := s.set + day.tmod (40000 - s.set + 1)
theorem dayOn_in {s : Shot} {day : Int} (hs : 0 ≤ s.set ∧ s.set ≤ 40000) (hd : 0 ≤ day) : (0 ≤ day.tmod (40000 - s.set + 1) ∧ day.tmod (40000 - s.set + 1) ≤ 40000 - s.set) ∧ s.set ≤ dayOn s day ∧ dayOn s day ≤ 40000 := by
  unfold dayOn
  rw [Int.tmod_eq_emod_of_nonneg hd]
  have h1 := Int.emod_nonneg day (show 40000 - s.set + 1 ≠ 0 by omega)
  have h2 := Int.emod_lt_of_pos day (show 0 < 40000 - s.set + 1 by omega)
  omega

end Go.PX

namespace Go.PX
open Go.Proofs

theorem truths_sub {s s' : Shot} {off : Int} {gs gs' : List Gauge} (e1 : s'.set = s.set) (e2 : s'.new = s.new) (e3 : s'.wear = s.wear) (hn : s.new.lo ≤ s.new.hi) (hsub : ∀ g ∈ gs, g ∈ gs') {t : Int × (Int × Int)} (ht : t ∈ truthsS s' off gs') :
    ∃ t0 ∈ truthsS s off gs, t0.1 = t.1 ∧ t0.2.1 ≤ t.2.1 ∧ t.2.2 ≤ t0.2.2 := by
  unfold truthsS at ht ⊢
  rw [e1, e2, e3] at ht
  obtain ⟨h1, h2, h3⟩ := truths_fit.1 ht
  have hle := fitsF_le (p := (s.new.lo, s.new.hi)) hn h3
  obtain ⟨q1, q2, hq⟩ : ∃ q1 q2, t.2 = (q1, q2) := ⟨_, _, rfl⟩
  have hlo := (fits_iff (n := t.2.1)).1 ⟨t.2, h3, by omega, hle.2.1⟩
  have hhi := (fits_iff (n := t.2.2)).1 ⟨t.2, h3, hle.2.1, by omega⟩
  obtain ⟨q, k1, k2, k3⟩ := (fits_iff (gs := gs)).2 ⟨hlo.1, hlo.2.1, fun g hg => hlo.2.2 g (hsub g hg)⟩
  obtain ⟨q', k4, k5, k6⟩ := (fits_iff (gs := gs)).2 ⟨hhi.1, hhi.2.1, fun g hg => hhi.2.2 g (hsub g hg)⟩
  rw [k1] at k4
  cases k4
  exact ⟨(t.1, q), truths_fit.2 ⟨h1, h2, k1⟩, rfl, k2, k6⟩

theorem range_sub {s s' : Shot} {off day : Int} {gs gs' : List Gauge} (e1 : s'.set = s.set) (e2 : s'.new = s.new) (e3 : s'.wear = s.wear) (hn : s.new.lo ≤ s.new.hi) (hsub : ∀ g ∈ gs, g ∈ gs') (h : (rangeS s' off gs' day).2 = true) :
    (rangeS s off gs day).2 = true ∧ (rangeS s off gs day).1.lo ≤ (rangeS s' off gs' day).1.lo ∧ (rangeS s' off gs' day).1.hi ≤ (rangeS s off gs day).1.hi := by
  rw [rangeS_some] at h
  have hne : truthsS s' off gs' ≠ [] := by intro he; rw [he] at h; simp at h
  obtain ⟨_, _, ⟨t, ht, hl⟩, ⟨u, hu, hh⟩⟩ := range_spec s' off gs' day hne
  obtain ⟨t0, ht0, a1, a2, _⟩ := truths_sub e1 e2 e3 hn hsub ht
  obtain ⟨u0, hu0, b1, _, b3⟩ := truths_sub e1 e2 e3 hn hsub hu
  obtain ⟨g1, g2, _, _⟩ := range_spec s off gs day (List.ne_nil_of_mem ht0)
  have c1 := (g2 t0 ht0).1
  have c2 := (g2 u0 hu0).2
  rw [hl, hh, e1]
  rw [a1] at c1
  rw [b1] at c2
  exact ⟨g1, Int.le_trans c1 (onF_mono a2), Int.le_trans (onF_mono b3) c2⟩

/-- A case whose shot has other gaugings. -/
def withC (c : Case) (i : Nat) (g : List Gauge) : Case := { c with chain := { c.chain with shots := c.chain.shots.modify i fun s => { s with gauges := g } } }

theorem withC_get {c : Case} {i : Nat} {s : Shot} (hs : c.chain.shots[i]? = some s) (g : List Gauge) : (withC c i g).chain.shots[i]? = some { s with gauges := g } := by
  simp [withC, List.getElem?_modify, hs]

theorem thick_kind {c : Case} (h : (checkC c).2.2 = 0) {i : Nat} {s : Shot} (hs : c.chain.shots[i]? = some s) {day : Int} (hd : s.set ≤ day ∧ day ≤ 40000) : (thickE c i day).2 = 0 ∨ (thickE c i day).2 = 9 := by
  have ho : openE c i = 0 := by
    have := (List.getElem?_eq_some_iff.1 hs).1
    unfold openE
    rw [if_pos h, if_pos (inB_iff.2 (by omega))]
  unfold thickE
  rw [ho]
  simp only [if_true, Int.toNat_natCast, hs, inB_iff.2 hd]
  split
  · left; rfl
  · right; rfl
end Go.PX

namespace Go.PX
open Go.Proofs

theorem map_modify {α β : Type} (h : α → β) {l : List α} {i : Nat} {s : α} (hs : l[i]? = some s) (f : α → α) : (l.map h).set i (h (f s)) = (l.modify i f).map h := by
  refine List.ext_getElem? fun k => ?_
  obtain ⟨hi, hse⟩ := List.getElem?_eq_some_iff.1 hs
  simp only [List.getElem?_set, List.length_map, List.getElem?_map, List.getElem?_modify]
  by_cases hk : i = k
  · subst hk
    simp [hi, hse]
  · simp [hk]

end Go.PX

namespace Go.PX
open Go.Proofs

theorem gaugesL_iff {set : Int} : ∀ {l : List Gauge} {last : Int}, gaugesL set last l = 0 ↔ (∀ g ∈ l, ((set ≤ g.day ∧ g.day ≤ 40000) ∧ (0 ≤ g.shown ∧ g.shown ≤ 60000)) ∧ last ≤ g.day) ∧ l.Pairwise (fun a b => a.day ≤ b.day)
  | [], last => by simp [gaugesL]
  | g :: r, last => by
    simp only [gaugesL, List.forall_mem_cons, List.pairwise_cons]
    split
    · rename_i hin
      simp only [Bool.and_eq_true, inB_iff] at hin
      split
      · rename_i hlt
        exact ⟨fun h => absurd h (by decide), fun h => by have := h.1.1.2; omega⟩
      · rename_i hlt
        rw [gaugesL_iff (l := r)]
        constructor
        · rintro ⟨h1, h2⟩
          exact ⟨⟨⟨hin, by omega⟩, fun x hx => ⟨(h1 x hx).1, by have := (h1 x hx).2; omega⟩⟩, fun x hx => (h1 x hx).2, h2⟩
        · rintro ⟨⟨_, h1⟩, h2, h3⟩
          exact ⟨fun x hx => ⟨(h1 x hx).1, h2 x hx⟩, h3⟩
    · rename_i hin
      refine ⟨fun h => absurd h (by decide), fun h => absurd ?_ hin⟩
      simp only [Bool.and_eq_true, inB_iff]
      exact h.1.1.1

theorem gaugesL_sub {set last : Int} {l l' : List Gauge} (hs : l'.Sublist l) (h : gaugesL set last l = 0) : gaugesL set last l' = 0 := by
  rw [gaugesL_iff] at h ⊢
  exact ⟨fun g hg => h.1 g (hs.subset hg), h.2.sublist hs⟩

theorem withoutF_sub {α : Type} {q : List Int} : ∀ (l : List α) (i : Int), (withoutF q l i).Sublist l
  | [], _ => List.Sublist.refl _
  | x :: r, i => by
    simp only [withoutF]
    split
    · exact (withoutF_sub r (i + 1)).cons _
    · exact (withoutF_sub r (i + 1)).cons₂ _

theorem with_ok {c : Case} (h : (checkC c).2.2 = 0) {i : Nat} {s : Shot} (hs : c.chain.shots[i]? = some s) {g : List Gauge} (hl : g.length ≤ 6) (hg : gaugesL s.set s.set g = 0) : (checkC (withC c i g)).2.2 = 0 := by
  have hG := (check_iff c).1 h
  have hi := (List.getElem?_eq_some_iff.1 hs).1
  have hlen : (withC c i g).chain.shots.length = c.chain.shots.length := by simp [withC]
  refine (check_iff _).2 ⟨?_, ?_, ?_, hG.rows, hG.ship, hG.day, hG.wlen, hG.weathers⟩
  · have hp := plain_iff.1 hG.plain
    refine plain_iff.2 ⟨?_, hp.2⟩
    rw [hlen]; exact hp.1
  · intro x hx
    obtain ⟨j, hj⟩ := List.mem_iff_getElem?.1 hx
    simp only [withC, List.getElem?_modify] at hj
    obtain ⟨y, hy, rfl⟩ := Option.map_eq_some_iff.1 hj
    have := hG.shots y (List.mem_of_getElem? hy)
    by_cases hij : i = j
    · subst hij
      rw [hs] at hy; cases hy
      simp only [if_true]
      exact ⟨⟨this.1.1, checkF_iff.2 ⟨(checkF_iff.1 this.1.2).1, hl, hg⟩⟩, this.2⟩
    · simp only [if_neg hij]
      exact this
  · have hn := hG.names
    rw [List.pairwise_iff_getElem] at hn ⊢
    intro j k hj hk hjk
    have hj' : j < c.chain.shots.length := by rw [← hlen]; exact hj
    have hk' : k < c.chain.shots.length := by rw [← hlen]; exact hk
    have := hn j k hj' hk' hjk
    have e : ∀ (m : Nat) (hm : m < (withC c i g).chain.shots.length) (hm' : m < c.chain.shots.length), ((withC c i g).chain.shots[m]).name = (c.chain.shots[m]).name := by
      intro m hm hm'
      simp only [withC, List.getElem_modify]
      split <;> rfl
    rw [e j hj hj', e k hk hk']
    exact this

/-! Ascending lists. -/

def AscB (below : Int) : Int → List Int → Prop
  | _, [] => True
  | start, x :: r => start ≤ x ∧ x < below ∧ AscB below (x + 1) r

theorem AscB.len {below : Int} : ∀ {r : List Int} {start : Int}, AscB below start r → start ≤ below → (r.length : Int) ≤ below - start
  | [], start, _, h => by simp; omega
  | x :: r, start, ⟨h1, h2, h3⟩, h => by
    have := AscB.len h3 (by omega)
    simp only [List.length_cons]
    omega

theorem AscB.mem {below : Int} : ∀ {r : List Int} {start : Int}, AscB below start r → ∀ x ∈ r, start ≤ x ∧ x < below
  | x :: r, start, ⟨h1, h2, h3⟩, y, hy => by
    rcases List.mem_cons.1 hy with rfl | hy
    · exact ⟨h1, h2⟩
    · have := AscB.mem h3 y hy
      omega

theorem lists_mem {below : Nat} : ∀ {n : Nat} {p : List Int} {start : Nat} {q : List Int}, q ∈ listsF below n p start ↔ ∃ r, q = p ++ r ∧ r.length = n ∧ AscB below start r
  | 0, p, start, q => by
    simp only [listsF, List.mem_singleton]
    constructor
    · rintro rfl; exact ⟨[], by simp, rfl, trivial⟩
    · rintro ⟨r, rfl, hr, _⟩
      have : r = [] := List.length_eq_zero_iff.1 hr
      subst this; simp
  | n + 1, p, start, q => by
    simp only [listsF, List.mem_flatMap, List.mem_range'_1]
    constructor
    · rintro ⟨i, hi, hq⟩
      obtain ⟨r, rfl, hr, ha⟩ := lists_mem.1 hq
      exact ⟨(i : Int) :: r, by simp, by simp [hr], by omega, by omega, by simpa using ha⟩
    · rintro ⟨r, rfl, hr, ha⟩
      cases r with
      | nil => simp at hr
      | cons x r =>
        obtain ⟨h1, h2, h3⟩ := ha
        refine ⟨x.toNat, by omega, lists_mem.2 ⟨r, ?_, by simpa using hr, ?_⟩⟩
        · rw [show ((x.toNat : Nat) : Int) = x by omega]; simp
        · rw [show ((x.toNat + 1 : Nat) : Int) = x + 1 by omega]; exact h3

theorem first_some {w : List Int → Bool} {many : Nat} {q : List Int} (h : firstL w many = some q) : AscB many 0 q ∧ w q = true ∧ ∀ r, AscB many 0 r → w r = true → q.length ≤ r.length := by
  unfold firstL at h
  have main : ∀ (k n : Nat), (List.range' n k).findSome? (fun n => (listsF many n [] 0).find? w) = some q → AscB many 0 q ∧ w q = true ∧ n ≤ q.length ∧ ∀ r, AscB many 0 r → w r = true → n ≤ r.length → q.length ≤ r.length := by
    intro k
    induction k with
    | zero => intro n h; cases h
    | succ k ih =>
      intro n h
      rw [List.range'_succ, List.findSome?_cons] at h
      cases hf : (listsF many n [] 0).find? w with
      | some q' =>
        rw [hf] at h
        cases h
        obtain ⟨r, hr, hl, ha⟩ := lists_mem.1 (List.mem_of_find?_eq_some hf)
        rw [List.nil_append] at hr
        subst hr
        exact ⟨ha, List.find?_some hf, by omega, fun r _ _ hr => by omega⟩
      | none =>
        rw [hf] at h
        obtain ⟨h1, h2, h3, h4⟩ := ih (n + 1) h
        refine ⟨h1, h2, by omega, fun r ha hw hr => ?_⟩
        by_cases he : r.length = n
        · have hm := List.find?_eq_none.1 hf r (lists_mem.2 ⟨r, by simp, he, ha⟩)
          exact absurd hw hm
        · exact h4 r ha hw (by omega)
  obtain ⟨h1, h2, _, h4⟩ := main _ _ h
  exact ⟨h1, h2, fun r ha hw => h4 r ha hw (Nat.zero_le _)⟩

theorem first_none {w : List Int → Bool} {many : Nat} (h : firstL w many = none) : ∀ r, AscB many 0 r → w r = false := by
  intro r ha
  unfold firstL at h
  rw [List.findSome?_eq_none_iff] at h
  have hl := ha.len (by omega)
  have h1 := h r.length (by rw [List.mem_range'_1]; omega)
  have := List.find?_eq_none.1 h1 r (lists_mem.2 ⟨r, by simp, rfl, ha⟩)
  simpa using this

theorem withoutF_all {α : Type} {q : List Int} : ∀ {l : List α} {i : Int}, (∀ k : Nat, k < l.length → i + (k : Int) ∈ q) → withoutF q l i = []
  | [], _, _ => rfl
  | x :: r, i, h => by
    have h0 := h 0 (by simp)
    simp only [withoutF]
    rw [if_pos (by simpa using h0)]
    refine withoutF_all fun k hk => ?_
    have := h (k + 1) (by simp; omega)
    rwa [show i + ((k + 1 : Nat) : Int) = i + 1 + (k : Int) by omega] at this

theorem ascB_range (below : Nat) : ∀ (n start : Nat), start + n ≤ below → AscB below start ((List.range' start n).map fun (k : Nat) => (k : Int))
  | 0, _, _ => trivial
  | n + 1, start, h => by
    rw [List.range'_succ, List.map_cons]
    refine ⟨Int.le_refl _, by omega, ?_⟩
    have := ascB_range below n (start + 1) (by omega)
    rwa [show ((start + 1 : Nat) : Int) = (start : Int) + 1 by omega] at this

theorem doubts_spec {s : Shot} {off : Int} (hn : s.new.lo ≤ s.new.hi) (hw : s.wear.lo ≤ s.wear.hi) :
    AscB s.gauges.length 0 (doubtsQ s off) ∧ doubtR s off (doubtsQ s off) = true ∧ ∀ r, AscB s.gauges.length 0 r → doubtR s off r = true → (doubtsQ s off).length ≤ r.length := by
  rw [doubtsQ_eq]
  cases hf : firstL (doubtR s off) s.gauges.length with
  | some q => exact first_some hf
  | none =>
    exfalso
    have h1 := first_none hf _ (ascB_range s.gauges.length s.gauges.length 0 (by omega))
    unfold doubtR at h1
    rw [withoutF_all (fun k hk => by simp [List.mem_range'_1]; exact ⟨k, by omega, rfl⟩), rangeS_some] at h1
    have : (s.wear.lo, (s.new.lo, s.new.hi)) ∈ truthsS s off [] := truths_fit.2 ⟨Int.le_refl _, by simp only; omega, rfl⟩
    have hne := List.ne_nil_of_mem this
    simp at h1
    exact hne h1

/-- Whether gaugings agree does not depend on the day. -/
theorem range_day (s : Shot) (off : Int) (gs : List Gauge) (d d' : Int) : (rangeS s off gs d).2 = (rangeS s off gs d').2 := by rw [rangeS_some, rangeS_some]

/-- The indices that bits name. -/
def bitsL (b : Int) : Nat → List Int
  | 0 => []
  | n + 1 => bitsL b n ++ (if (b.fdiv (2 ^ n)).tmod 2 = 1 then [(n : Int)] else [])

theorem ascB_snoc {below : Int} : ∀ {r : List Int} {start x : Int}, AscB x start r → start ≤ x → x < below → AscB below start (r ++ [x])
  | [], start, x, _, h1, h2 => ⟨h1, h2, trivial⟩
  | y :: r, start, x, ⟨h1, h2, h3⟩, h4, h5 => ⟨h1, by omega, ascB_snoc h3 (by omega) h5⟩

theorem AscB.mono {b b' : Int} (h : b ≤ b') : ∀ {r : List Int} {start : Int}, AscB b start r → AscB b' start r
  | [], _, _ => trivial
  | x :: r, start, ⟨h1, h2, h3⟩ => ⟨h1, by omega, AscB.mono h h3⟩

theorem bitsL_asc (b : Int) : ∀ n : Nat, AscB n 0 (bitsL b n)
  | 0 => trivial
  | n + 1 => by
    unfold bitsL
    have ih := bitsL_asc b n
    split
    · exact ascB_snoc ih (by omega) (by omega)
    · rw [List.append_nil]
      exact ih.mono (by omega)

theorem bitsL_len (b : Int) : ∀ n : Nat, (bitsL b n).length ≤ n
  | 0 => by simp [bitsL]
  | n + 1 => by
    have := bitsL_len b n
    unfold bitsL
    split <;> simp <;> omega
end Go.PX

namespace Go.PX
open Go.Proofs

theorem sliced {α β : Type} (f : α → β) (l : List α) (a b : Nat) : (((l.map f).take b).drop a) = ((l.take b).drop a).map f := by rw [List.map_drop, List.map_take]

theorem el_ok {T : Tys} {el : TypeId} {ei : TyI} (hT : T.get el = some ei) {α : Type} {f : α → List D} (hf : ∀ x, Nat.beq (f x).length ei.size = true) (l : List α) : elSize T el (l.map f) = true := by
  unfold elSize
  rw [hT]
  cases l with
  | nil => rfl
  | cons x r => exact hf x

def moreG (gs : List Gauge) (k : Nat) (g : Gauge) : List Gauge := gs.take k ++ g :: gs.drop k

end Go.PX

namespace Go.PX
open Go.Proofs

theorem AscB.get {below : Int} : ∀ {r : List Int} {start : Int} {i : Nat} {x y : Int}, AscB below start r → r[i]? = some x → r[i + 1]? = some y → x < y
  | a :: r, start, 0, x, y, ⟨h1, h2, h3⟩, hx, hy => by
    simp only [List.getElem?_cons_zero, Option.some.injEq] at hx
    subst hx
    cases r with
    | nil => simp at hy
    | cons b r =>
      simp only [List.getElem?_cons_succ, List.getElem?_cons_zero, Option.some.injEq] at hy
      subst hy
      have := h3.1
      omega
  | a :: r, start, i + 1, x, y, ⟨h1, h2, h3⟩, hx, hy => AscB.get h3 (by simpa using hx) (by simpa using hy)

end Go.PX

namespace Go.PX
open Go.Proofs

/-! A renewed chain. -/

def renewS (c : Case) (w : List Int) (i : Nat) (s : Shot) : Shot := if (i : Int) ∈ w then { s with set := c.day, gauges := [] } else s
def renewC (c : Case) (w : List Int) : Case := { c with chain := { c.chain with shots := c.chain.shots.mapIdx (renewS c w) } }
def refC (c : Case) (w : List Int) (rev : Bool) : Case := turnC (renewC c w) rev

theorem turn_turn (c : Case) (a b : Bool) : turnC (turnC c a) b = turnC c (a != b) := by
  cases a <;> cases b <;> simp [turnC]

theorem renew_nil (c : Case) : renewC c [] = c := by
  have : c.chain.shots.mapIdx (renewS c []) = c.chain.shots := by
    refine List.ext_getElem? fun k => ?_
    rw [List.getElem?_mapIdx]
    cases c.chain.shots[k]? <;> simp [renewS]
  unfold renewC
  rw [this]

theorem turn_check {c : Case} (h : (checkC c).2.2 = 0) (rev : Bool) : (checkC (turnC c rev)).2.2 = 0 := by
  cases rev with
  | false => exact h
  | true =>
    have hG := (check_iff c).1 h
    refine (check_iff _).2 ⟨?_, ?_, ?_, hG.rows, hG.ship, hG.day, hG.wlen, hG.weathers⟩
    · have hp := plain_iff.1 hG.plain
      refine plain_iff.2 ⟨?_, hp.2⟩
      show 1 ≤ c.chain.shots.reverse.length ∧ c.chain.shots.reverse.length ≤ 7
      rw [List.length_reverse]; exact hp.1
    · intro x hx
      exact hG.shots x (List.mem_reverse.1 hx)
    · show c.chain.shots.reverse.Pairwise _
      rw [List.pairwise_reverse]
      exact hG.names.imp fun h => h.symm

theorem turn_sound {c : Case} (h : soundE c = 0) (rev : Bool) : soundE (turnC c rev) = 0 := by
  cases rev with
  | false => exact h
  | true => exact soundL_all fun s hs => (soundL_zero h).2 s (List.mem_reverse.1 hs)

theorem turn_all {c : Case} (h : soundAll c = 0) (rev : Bool) : soundAll (turnC c rev) = 0 := by
  obtain ⟨h0, hs⟩ := lookE_zero (show lookE c (checkC c).2.2 = 0 from h)
  show lookE _ _ = 0
  rw [turn_check h0]
  simp [lookE, turn_sound hs]

theorem thick_turn (c : Case) (rev : Bool) : thickL (turnC c rev) = turnT (thickL c) rev := by
  cases rev with
  | false => rfl
  | true => simp [thickL, turnC, turnT, List.map_reverse]

/-- A renewed shot is as thick as a new one. -/
theorem range_new {s : Shot} {off day : Int} (hn : 1 ≤ s.new.lo ∧ s.new.lo ≤ s.new.hi) (hw : s.wear.lo ≤ s.wear.hi) : rangeS { s with set := day, gauges := [] } off [] day = (s.new, true) := by
  have hm : (s.wear.lo, (s.new.lo, s.new.hi)) ∈ truthsS { s with set := day, gauges := [] } off [] := truths_fit.2 ⟨Int.le_refl _, by simp only; omega, rfl⟩
  obtain ⟨h1, h2, ⟨t, ht, hl⟩, ⟨u, hu, hh⟩⟩ := range_spec { s with set := day, gauges := [] } off [] day (List.ne_nil_of_mem hm)
  obtain ⟨_, _, ft⟩ := truths_fit.1 ht
  obtain ⟨_, _, fu⟩ := truths_fit.1 hu
  simp only [fitsF, Option.some.injEq] at ft fu
  rw [← ft] at hl
  rw [← fu] at hh
  simp only [onF, Int.sub_self, Int.mul_zero, Int.sub_zero] at hl hh
  refine Prod.ext (span_eq.2 ⟨?_, ?_⟩) h1
  · rw [hl]; show max 0 s.new.lo = s.new.lo; omega
  · rw [hh]; show max 0 s.new.hi = s.new.hi; omega

theorem renew_get {c : Case} {w : List Int} {i : Nat} {s : Shot} (h : c.chain.shots[i]? = some s) : (renewC c w).chain.shots[i]? = some (renewS c w i s) := by
  simp [renewC, h]

theorem renew_check {c : Case} (h : (checkC c).2.2 = 0) (w : List Int) : (checkC (renewC c w)).2.2 = 0 := by
  have hG := (check_iff c).1 h
  have hd := inB_iff.1 hG.day
  have hlen : (renewC c w).chain.shots.length = c.chain.shots.length := by simp [renewC]
  have hname : ∀ (i : Nat) (s : Shot), (renewS c w i s).name = s.name := fun i s => by unfold renewS; split <;> rfl
  refine (check_iff _).2 ⟨?_, ?_, ?_, hG.rows, hG.ship, hG.day, hG.wlen, hG.weathers⟩
  · have hp := plain_iff.1 hG.plain
    refine plain_iff.2 ⟨?_, hp.2⟩
    rw [hlen]; exact hp.1
  · intro x hx
    obtain ⟨i, hi, rfl⟩ := List.mem_mapIdx.1 hx
    have hs := hG.shots c.chain.shots[i] (List.getElem_mem ..)
    refine ⟨⟨by rw [hname]; exact hs.1.1, ?_⟩, ?_⟩
    · unfold renewS
      split
      · have := checkF_iff.1 hs.1.2
        exact checkF_iff.2 ⟨⟨this.1.1, ⟨hd.1, hd.2⟩, this.1.2.2⟩, by simp, rfl⟩
      · exact hs.1.2
    · unfold renewS
      split
      · exact Int.le_refl _
      · exact hs.2
  · have hn := hG.names
    rw [List.pairwise_iff_getElem] at hn ⊢
    intro i j hi hj hij
    have := hn i j (by rw [← hlen]; exact hi) (by rw [← hlen]; exact hj) hij
    simpa [renewC, hname] using this

theorem renew_range {c : Case} (hR : CaseR c) (hs : soundE c = 0) (w : List Int) {i : Nat} {s : Shot} (h : c.chain.shots[i]? = some s) :
    rangeS (renewS c w i s) c.chain.err (renewS c w i s).gauges c.day = if (i : Int) ∈ w then (s.new, true) else rangeS s c.chain.err s.gauges c.day := by
  have hm := List.mem_of_getElem? h
  have hsR := (hR.shots s hm).1
  unfold renewS
  by_cases hi : (i : Int) ∈ w
  · rw [if_pos hi, if_pos hi]
    exact range_new ⟨hsR.new.1, hsR.new.2.1⟩ hsR.wear.2.1
  · rw [if_neg hi, if_neg hi]

theorem renew_sound {c : Case} (hR : CaseR c) (hs : soundE c = 0) (w : List Int) : soundE (renewC c w) = 0 :=
  soundL_all fun x hx => by
    obtain ⟨i, hi, rfl⟩ := List.mem_mapIdx.1 hx
    have hg : c.chain.shots[i]? = some c.chain.shots[i] := List.getElem?_eq_getElem hi
    have := renew_range hR hs w hg
    show (rangeS (renewS c w i c.chain.shots[i]) c.chain.err (renewS c w i c.chain.shots[i]).gauges c.day).2 = true
    rw [this]
    split
    · rfl
    · exact (soundL_zero hs).2 _ (List.getElem_mem ..)

theorem ref_all {c : Case} (h : soundAll c = 0) (w : List Int) (rev : Bool) : soundAll (refC c w rev) = 0 := by
  obtain ⟨h0, hs⟩ := lookE_zero (show lookE c (checkC c).2.2 = 0 from h)
  refine turn_all ?_ rev
  show lookE _ _ = 0
  rw [renew_check h0]
  simp [lookE, renew_sound (case_ok h0) hs w]

/-- What is renewed, shot by shot. -/
theorem renewT_get {c : Case} : ∀ {w : List Int} {th : List Span} (hw : ∀ i ∈ w, 0 ≤ i ∧ i < c.chain.shots.length) (hl : th.length = c.chain.shots.length) (k : Nat),
    (renewT c th w)[k]? = if (k : Int) ∈ w then (c.chain.shots[k]?).map (·.new) else th[k]?
  | [], th, _, _, k => by simp [renewT]
  | i :: r, th, hw, hl, k => by
    have hi := hw i (by simp)
    have : renewT c th (i :: r) = renewT c (th.set i.toNat (newAt c i)) r := rfl
    rw [this, renewT_get (fun x hx => hw x (by simp [hx])) (by simpa using hl)]
    by_cases hr : (k : Int) ∈ r
    · rw [if_pos hr, if_pos (by simp [hr])]
    · rw [if_neg hr]
      by_cases hk : (k : Int) = i
      · rw [if_pos (by simp [hk])]
        subst hk
        have hlt : k < c.chain.shots.length := by omega
        rw [Int.toNat_natCast, List.getElem?_set_self (by omega), List.getElem?_eq_getElem hlt]
        simp [newAt, List.getElem?_eq_getElem hlt]
      · rw [if_neg (by simp [hk, hr]), List.getElem?_set_ne (by omega)]

theorem renewT_len {c : Case} : ∀ {w : List Int} {th : List Span}, (renewT c th w).length = th.length
  | [], _ => rfl
  | i :: r, th => by
    show (renewT c (th.set i.toNat (newAt c i)) r).length = _
    rw [renewT_len, List.length_set]

theorem thick_renew {c : Case} (hR : CaseR c) (hs : soundE c = 0) {w : List Int} (hw : ∀ i ∈ w, 0 ≤ i ∧ i < c.chain.shots.length) : thickL (renewC c w) = renewT c (thickL c) w := by
  refine List.ext_getElem? fun k => ?_
  rw [renewT_get hw (by simp [thickL])]
  cases hk : c.chain.shots[k]? with
  | none =>
    have hlt := List.getElem?_eq_none_iff.1 hk
    rw [List.getElem?_eq_none (by simp [thickL, renewC]; exact hlt)]
    split
    · rfl
    · rw [List.getElem?_eq_none (by simp [thickL]; exact hlt)]
  | some s =>
    rw [thick_get (renew_get hk)]
    have := renew_range hR hs w hk
    show some (rangeS (renewS c w k s) c.chain.err (renewS c w k s).gauges c.day).1 = _
    rw [this]
    split
    · rfl
    · rw [thick_get hk]

/-! What is judged depends on the links of the shots alone. -/

theorem judgeL_links {heavy pull out : Int} : ∀ {l l' : List Shot} {ts : List Int} {n i : Int}, l.map (·.links) = l'.map (·.links) → judgeL heavy pull out l ts n i = judgeL heavy pull out l' ts n i
  | [], [], _, _, _, _ => rfl
  | [], _ :: _, _, _, _, h => by simp at h
  | _ :: _, [], _, _, _, h => by simp at h
  | s :: r, s' :: r', [], _, _, _ => rfl
  | s :: r, s' :: r', t :: ts, n, i, h => by
    simp only [List.map_cons, List.cons.injEq] at h
    simp only [judgeL, h.1]
    rw [judgeL_links h.2]

theorem linksF_map : ∀ {l l' : List Shot}, l.map (·.links) = l'.map (·.links) → linksF l = linksF l'
  | [], [], _ => rfl
  | [], _ :: _, h => by simp at h
  | _ :: _, [], h => by simp at h
  | s :: r, s' :: r', h => by
    simp only [List.map_cons, List.cons.injEq] at h
    simp only [linksF, h.1, linksF_map h.2]

/-- Two cases with the same links. -/
structure SameL (c c' : Case) : Prop where
  links : c.chain.shots.map (·.links) = c'.chain.shots.map (·.links)
  rows : c.chain.rows = c'.chain.rows
  long : c.chain.long = c'.chain.long
  heavy : c.chain.heavy = c'.chain.heavy
  hold : c.chain.hold = c'.chain.hold
  ship : c.ship = c'.ship
  weathers : c.weathers = c'.weathers

theorem breakF_links {c c' : Case} (h : SameL c c') (th : List Span) (out : Int) : breakF c th out = breakF c' th out := by
  have hj : ∀ w, judgeW c th out w = judgeW c' th out w := fun w => by
    unfold judgeW judgeF worstT
    rw [h.ship, h.heavy, h.hold, judgeL_links h.links]
    unfold rowF
    have : ∀ t r, rowOk c t out r = rowOk c' t out r := fun t r => by unfold rowOk; rw [h.long]
    simp only [this, h.rows]
  unfold breakF
  rw [h.weathers]
  have : ∀ (l : List Weather) (i : Int), breakL c th out l i = breakL c' th out l i := by
    intro l
    induction l with
    | nil => intro i; rfl
    | cons w r ih => intro i; simp only [breakL, hj, ih]
  exact this _ _

theorem runs_links {c c' : Case} (h : SameL c c') (th : List Span) : allRuns c th = allRuns c' th := by
  unfold allRuns
  have e1 := linksF_map h.links
  have e2 : holdsAt c th = holdsAt c' th := by
    funext k
    unfold holdsAt
    rw [e1, breakF_links h]
  rw [e1, e2]

theorem ref_same (c : Case) (w : List Int) (rev : Bool) : SameL (refC c w rev) (turnC c rev) := by
  have hl : (c.chain.shots.mapIdx (renewS c w)).map (·.links) = c.chain.shots.map (·.links) := by
    refine List.ext_getElem? fun k => ?_
    rw [List.getElem?_map, List.getElem?_map, List.getElem?_mapIdx]
    cases c.chain.shots[k]? with
    | none => rfl
    | some s => simp only [Option.map_some]; unfold renewS; split <;> rfl
  cases rev with
  | false => exact ⟨hl, rfl, rfl, rfl, rfl, rfl, rfl⟩
  | true => exact ⟨by show (c.chain.shots.mapIdx (renewS c w)).reverse.map (·.links) = c.chain.shots.reverse.map (·.links); rw [List.map_reverse, List.map_reverse, hl], rfl, rfl, rfl, rfl, rfl, rfl⟩

/-- Whether a renewed chain holds with some scope. -/
def okRun (c : Case) (th : List Span) (w : List Int) (rev : Bool) : Bool := !(allRuns (turnC c rev) (turnT (renewT c th w) rev)).isEmpty

theorem scopes_ok (c : Case) (th : List Span) : ((scopesF c th 1).length > 0) ↔ (!(allRuns c th).isEmpty) = true := by
  rw [scopesF_take c th (by omega)]
  cases allRuns c th <;> simp

theorem renewW_eq (c : Case) (th : List Span) (q : List Int) : renewW c th q = if okRun c th q false then (false, true) else if okRun c th q true then (true, true) else (false, false) := by
  unfold renewW okRun
  simp only [scopes_ok]

theorem short_ref {c : Case} (h : soundAll c = 0) {w : List Int} (hw : ∀ i ∈ w, 0 ≤ i ∧ i < c.chain.shots.length) (rev : Bool) : (shortE (refC c w rev)).2 = if okRun c (thickL c) w rev then 0 else 9 := by
  obtain ⟨h0, hs⟩ := lookE_zero (show lookE c (checkC c).2.2 = 0 from h)
  have hR := case_ok h0
  have e : allRuns (refC c w rev) (thickL (refC c w rev)) = allRuns (turnC c rev) (turnT (renewT c (thickL c) w) rev) := by
    rw [runs_links (ref_same c w rev)]
    unfold refC
    rw [thick_turn, thick_renew hR hs hw]
  rw [shortE_all (ref_all h w rev), e]
  unfold okRun
  cases allRuns (turnC c rev) (turnT (renewT c (thickL c) w) rev) <;> rfl

theorem renew_find {c : Case} (h : soundAll c = 0) : renewE c = match firstL (fun q => (renewW c (thickL c) q).2) c.chain.shots.length with
    | some q => ((q, (renewW c (thickL c) q).1), 0)
    | none => (([], false), 9) := by
  unfold renewE
  rw [if_pos (show lookE c (checkC c).2.2 = 0 from h), choose_first]
  cases firstL (fun q => (renewW c (thickL c) q).2) c.chain.shots.length <;> rfl
end Go.PX

namespace Go.PX
open Go.Proofs

theorem relaxE_map {α : Type} (f : α → List D) (g : α → List D) (h : ∀ x, relaxL (f x) = g x) : ∀ l : List α, relaxE (l.map f) = l.map g
  | [] => rfl
  | x :: r => by
    show relaxL (f x) :: relaxE (r.map f) = _
    rw [h, relaxE_map f g h r]; rfl

theorem relaxE_eq : ∀ (l : List (List D)), relaxE l = l.map relaxL
  | [] => rfl
  | x :: r => by
    show relaxL x :: relaxE r = _
    rw [relaxE_eq r]; rfl

theorem relax_gauges (l : List Gauge) : relax (gaugesD l) = gaugesD l := by
  show D.vs (relaxE (l.map Gauge.cells)) = _
  rw [relaxE_map Gauge.cells Gauge.cells fun x => rfl]; rfl

theorem relax_shot (s : Shot) : relaxL s.cells = s.cells := by
  show [_, _, _, _, _, _, _, relax (gaugesD s.gauges)] = _
  rw [relax_gauges]; rfl

theorem relax_tail (c : Case) : relaxL c.cells.tail = c.cells.tail := by
  show [_, _, _, _, _, D.vs (relaxE (c.chain.rows.map Row.cells)), _, _, _, _, _, D.vs (relaxE (c.weathers.map Weather.cells))] = _
  rw [relaxE_map Row.cells Row.cells fun x => rfl, relaxE_map Weather.cells Weather.cells fun x => rfl]; rfl

def renewN (c : Case) (w : List Int) (i : Nat) (s : Shot) : List D := if (i : Int) ∈ w then [.str s.name, i64 s.links, i64 c.day, i64 s.new.lo, i64 s.new.hi, i64 s.wear.lo, i64 s.wear.hi, .nils] else s.cells

theorem relax_new (c : Case) (w : List Int) (i : Nat) (s : Shot) : relaxL (renewN c w i s) = (renewS c w i s).cells := by
  unfold renewN renewS
  split
  · rfl
  · exact relax_shot s

theorem new_len (c : Case) (w : List Int) (i : Nat) (s : Shot) : (renewN c w i s).length = 8 ∧ allScalarD (renewN c w i s) = true := by
  unfold renewN
  split <;> exact ⟨rfl, rfl⟩

def refN (c : Case) (w : List Int) (rev : Bool) : List (List D) := if rev then (c.chain.shots.mapIdx (renewN c w)).reverse else c.chain.shots.mapIdx (renewN c w)

theorem relax_ref (c : Case) (w : List Int) (rev : Bool) : relax (.agg (.vs (refN c w rev) :: c.cells.tail)) = (refC c w rev).d := by
  show D.agg (D.vs (relaxE (refN c w rev)) :: relaxL c.cells.tail) = _
  rw [relax_tail, relaxE_eq]
  have h : (c.chain.shots.mapIdx (renewN c w)).map relaxL = (c.chain.shots.mapIdx (renewS c w)).map Shot.cells := by
    refine List.ext_getElem? fun k => ?_
    simp only [List.getElem?_map, List.getElem?_mapIdx]
    cases c.chain.shots[k]? with
    | none => rfl
    | some s => simp only [Option.map_some, relax_new]
  cases rev with
  | false => show D.agg (D.vs ((c.chain.shots.mapIdx (renewN c w)).map relaxL) :: _) = _; rw [h]; rfl
  | true => show D.agg (D.vs ((c.chain.shots.mapIdx (renewN c w)).reverse.map relaxL) :: _) = _; rw [List.map_reverse, h, ← List.map_reverse]; rfl

theorem fn42n (c : Case) (w : List Int) (rev : Bool) (hw : w.length < 1000000) (hl : (c.chain.shots.length + 1) * 88 ≤ 140737488355328) : FnV Tryz.prog 55 [c.d, intsD w, .bool rev] (.agg (.vs (refN c w rev) :: c.cells.tail)) := by
  cases rev with
  | false =>
    refine fnV_of mixed tysOk Tryz.func55 rfl (ft := ft55) 3 (by decide +kernel) (by rfl) fun {σ} Y st => ?_
    conv => whnf
    refine LoopA_i (T := tys) tysOk (by exact drawsB_spec mixed tysOk (by decide +kernel)) c.chain.shots (fun i (g : List (List D) × Nat) => ⟨[(1, .d (intsD w)), (2, .d (.bool false)), (3, .ptr 3 0), (6, .ptr 6 0), (7, .sl 39 8 0 g.2), (8, .d (i64 i))],
        [(3, .box (.dd c.cells)), (6, .box (.dd caseZ0)), (39, .arr 8 (.dd g.1))], st⟩)
      (fun i r g => g.1 = (c.chain.shots.mapIdx (renewN c w)).take i ∧ i = g.2) ([], 0) ((Wk.born 7 39 8 rfl rfl rfl).trans (Wk.sub ⟨rfl, rfl, rfl, rfl, rfl, rfl, trivial⟩ ⟨rfl, rfl, rfl, trivial⟩)) ⟨rfl, rfl⟩ ?_ ?_
    · rintro i x r ⟨es, k⟩ hx hi hr ⟨h1, h2⟩
      replace h1 : es = _ := h1
      replace h2 : i = k := h2
      subst h1 h2
      conv => whnf
      refine brk_i (fun _ => ?_) (fun h => absurd hi (by simpa using h))
      conv => whnf
      refine elemK_nat hx ?_
      conv => whnf
      refine CallA_v (ds := [intsD w, i64 i]) (fn79 w i (by omega)) rfl rfl ?_
      by_cases hiw : (i : Int) ∈ w
      · have hE : renewN c w i x = [.str x.name, i64 x.links, i64 c.day, i64 x.new.lo, i64 x.new.hi, i64 x.wear.lo, i64 x.wear.hi, .nils] := by unfold renewN; rw [if_pos hiw]
        rw [decide_eq_true hiw]
        conv => whnf
        repeat' (first
          | (refine arith_in (wrap_i64 (by (try dsimp only); omega)) ?_; conv => whnf)
          | (refine elemK_nat (by assumption) ?_; conv => whnf)
          | (refine ownK_whole (by first | rfl | assumption | (simp [Els.len]; done) | (simp [Els.len]; omega)) ?_; conv => whnf)
          | (refine chk_i (by first | (exact decide_eq_true (by (try simp only [List.length_map]); omega)) | (simp [Els.len, Els.cons, V.cells, Els.toV, injL]; done) | (simp [Els.len, Els.cons, V.cells, Els.toV, injL]; omega)) ?_; conv => whnf)
          | fail)
        refine ⟨(_, _), ⟨?_, ?_⟩, (Wk.sub ⟨rfl, rfl, rfl, rfl, rfl, rfl, trivial⟩ ⟨rfl, rfl, rfl, trivial⟩)⟩
        · simp only [List.take_succ]
          simp [hx, hE]
          try rfl
        · simp [Els.len]; omega
      · have hE : renewN c w i x = x.cells := by unfold renewN; rw [if_neg hiw]
        rw [decide_eq_false hiw]
        conv => whnf
        repeat' (first
          | (refine arith_in (wrap_i64 (by (try dsimp only); omega)) ?_; conv => whnf)
          | (refine elemK_nat (by assumption) ?_; conv => whnf)
          | (refine ownK_whole (by first | rfl | assumption | (simp [Els.len]; done) | (simp [Els.len]; omega)) ?_; conv => whnf)
          | (refine chk_i (by first | (exact decide_eq_true (by (try simp only [List.length_map]); omega)) | (simp [Els.len, Els.cons, V.cells, Els.toV, injL]; done) | (simp [Els.len, Els.cons, V.cells, Els.toV, injL]; omega)) ?_; conv => whnf)
          | fail)
        refine ⟨(_, _), ⟨?_, ?_⟩, (Wk.sub ⟨rfl, rfl, rfl, rfl, rfl, rfl, trivial⟩ ⟨rfl, rfl, rfl, trivial⟩)⟩
        · simp only [List.take_succ]
          simp [hx, hE]
          try rfl
        · simp [Els.len]; omega
    · rintro ⟨es, k⟩ ⟨h1, h2⟩
      replace h1 : es = _ := h1
      replace h2 : _ = k := h2
      rw [List.take_of_length_le (by simp)] at h1
      subst h1 h2
      conv => whnf
      refine brk_i (fun h => absurd h (by simp)) (fun _ => ?_)
      conv => whnf
      exact RetA_view 3 (ds := [.agg (.vs (refN c w false) :: c.cells.tail)]) (viewL_cons (viewV_agg (viewL_cons (viewV_sl' rfl (by simp [refN]) (by simp [refN])) (viewL_app (a := c.cells.tail) (r := []) rfl))) rfl) ⟨⟨rfl, rfl⟩, rfl⟩
  | true =>
    refine fnV_of mixed tysOk Tryz.func55 rfl (ft := ft55) 3 (by decide +kernel) (by rfl) fun {σ} Y st => ?_
    conv => whnf
    refine LoopA_i (T := tys) tysOk (by exact drawsB_spec mixed tysOk (by decide +kernel)) c.chain.shots (fun i (g : List (List D) × Nat) => ⟨[(1, .d (intsD w)), (2, .d (.bool true)), (3, .ptr 3 0), (6, .ptr 6 0), (7, .sl 35 8 0 g.2), (8, .d (i64 i))],
        [(3, .box (.dd c.cells)), (6, .box (.dd caseZ0)), (35, .arr 8 (.dd g.1))], st⟩)
      (fun i r g => g.1 = ((c.chain.shots.mapIdx (renewN c w)).take i).reverse ∧ i = g.2 ∧ lenAllD 8 g.1 = true) ([], 0) ((Wk.born 7 35 8 rfl rfl rfl).trans (Wk.sub ⟨rfl, rfl, rfl, rfl, rfl, rfl, trivial⟩ ⟨rfl, rfl, rfl, trivial⟩)) ⟨rfl, rfl, rfl⟩ ?_ ?_
    · rintro i x r ⟨es, k⟩ hx hi hr ⟨h1, h2, h3⟩
      replace h1 : es = _ := h1
      replace h2 : i = k := h2
      replace h3 : lenAllD 8 es = true := h3
      subst h2
      have hel : es.length = i := by rw [h1]; simp; omega
      conv => whnf
      refine brk_i (fun _ => ?_) (fun h => absurd hi (by simpa using h))
      conv => whnf
      refine elemK_nat hx ?_
      conv => whnf
      refine CallA_v (ds := [intsD w, i64 i]) (fn79 w i (by omega)) rfl rfl ?_
      by_cases hiw : (i : Int) ∈ w
      · have hE : renewN c w i x = [.str x.name, i64 x.links, i64 c.day, i64 x.new.lo, i64 x.new.hi, i64 x.wear.lo, i64 x.wear.hi, .nils] := by unfold renewN; rw [if_pos hiw]
        rw [decide_eq_true hiw]
        conv => whnf
        repeat' (first
          | (refine arith_in (wrap_i64 (by (try dsimp only); omega)) ?_; conv => whnf)
          | (refine elemK_nat (by assumption) ?_; conv => whnf)
          | (refine ownK_whole (by first | rfl | assumption | (simp [Els.len]; done) | (simp [Els.len]; omega)) ?_; conv => whnf)
          | (refine chk_i (by first | (exact decide_eq_true (by (try simp only [List.length_map]); omega)) | (simp [Els.len, Els.cons, V.cells, Els.toV, injL]; done) | (simp [Els.len, Els.cons, V.cells, Els.toV, injL]; omega)) ?_; conv => whnf)
          | fail)
        refine chk_i (by
          show (lenAllD 8 es && true) = true
          rw [h3]; rfl) ?_
        conv => whnf
        repeat' (first
          | (refine arith_in (wrap_i64 (by (try dsimp only); omega)) ?_; conv => whnf)
          | (refine elemK_nat (by assumption) ?_; conv => whnf)
          | (refine ownK_whole (by first | rfl | assumption | (simp [Els.len]; done) | (simp [Els.len]; omega)) ?_; conv => whnf)
          | (refine chk_i (by first | (exact decide_eq_true (by (try simp only [List.length_map]); omega)) | (simp [Els.len, Els.cons, V.cells, Els.toV, injL]; done) | (simp [Els.len, Els.cons, V.cells, Els.toV, injL]; omega)) ?_; conv => whnf)
          | fail)
        refine ⟨(_, _), ⟨?_, ?_, ?_⟩, (Wk.sub ⟨rfl, rfl, rfl, rfl, rfl, rfl, trivial⟩ ⟨rfl, rfl, rfl, trivial⟩)⟩
        · rw [h1]
          simp only [List.take_succ]
          simp [hx, hE]
          try rfl
        · simp [Els.len, hel]; omega
        · exact h3
      · have hE : renewN c w i x = x.cells := by unfold renewN; rw [if_neg hiw]
        rw [decide_eq_false hiw]
        conv => whnf
        repeat' (first
          | (refine arith_in (wrap_i64 (by (try dsimp only); omega)) ?_; conv => whnf)
          | (refine elemK_nat (by assumption) ?_; conv => whnf)
          | (refine ownK_whole (by first | rfl | assumption | (simp [Els.len]; done) | (simp [Els.len]; omega)) ?_; conv => whnf)
          | (refine chk_i (by first | (exact decide_eq_true (by (try simp only [List.length_map]); omega)) | (simp [Els.len, Els.cons, V.cells, Els.toV, injL]; done) | (simp [Els.len, Els.cons, V.cells, Els.toV, injL]; omega)) ?_; conv => whnf)
          | fail)
        refine chk_i (by
          show (lenAllD 8 es && true) = true
          rw [h3]; rfl) ?_
        conv => whnf
        repeat' (first
          | (refine arith_in (wrap_i64 (by (try dsimp only); omega)) ?_; conv => whnf)
          | (refine elemK_nat (by assumption) ?_; conv => whnf)
          | (refine ownK_whole (by first | rfl | assumption | (simp [Els.len]; done) | (simp [Els.len]; omega)) ?_; conv => whnf)
          | (refine chk_i (by first | (exact decide_eq_true (by (try simp only [List.length_map]); omega)) | (simp [Els.len, Els.cons, V.cells, Els.toV, injL]; done) | (simp [Els.len, Els.cons, V.cells, Els.toV, injL]; omega)) ?_; conv => whnf)
          | fail)
        refine ⟨(_, _), ⟨?_, ?_, ?_⟩, (Wk.sub ⟨rfl, rfl, rfl, rfl, rfl, rfl, trivial⟩ ⟨rfl, rfl, rfl, trivial⟩)⟩
        · rw [h1]
          simp only [List.take_succ]
          simp [hx, hE]
          try rfl
        · simp [Els.len, hel]; omega
        · exact h3
    · rintro ⟨es, k⟩ ⟨h1, h2, _⟩
      replace h1 : es = _ := h1
      replace h2 : _ = k := h2
      rw [List.take_of_length_le (by simp)] at h1
      subst h1 h2
      conv => whnf
      refine brk_i (fun h => absurd h (by simp)) (fun _ => ?_)
      conv => whnf
      exact RetA_view 3 (ds := [.agg (.vs (refN c w true) :: c.cells.tail)]) (viewL_cons (viewV_agg (viewL_cons (viewV_sl' rfl (by simp [refN]) (by simp [refN])) (viewL_app (a := c.cells.tail) (r := []) rfl))) rfl) ⟨⟨rfl, rfl⟩, rfl⟩

theorem fn42 (c : Case) (w : List Int) (rev : Bool) (hw : w.length < 1000000) (hl : (c.chain.shots.length + 1) * 88 ≤ 140737488355328) : FnV Tryz.prog 55 [c.d, intsD w, .bool rev] (refC c w rev).d :=
  FnV.relax (fn42n c w rev hw hl) (relax_ref c w rev)
end Go.PX

namespace Go.PX
open Go.Proofs

theorem renewW_true {c : Case} {th : List Span} {q : List Int} (h : (renewW c th q).2 = true) : okRun c th q (renewW c th q).1 = true := by
  rw [renewW_eq] at h ⊢
  by_cases h1 : okRun c th q false = true
  · rw [if_pos h1]; exact h1
  · rw [if_neg h1] at h ⊢
    by_cases h2 : okRun c th q true = true
    · rw [if_pos h2]; exact h2
    · rw [if_neg h2] at h; exact absurd h (by decide)

theorem renewW_any {c : Case} {th : List Span} {q : List Int} {rev : Bool} (h : okRun c th q rev = true) : (renewW c th q).2 = true := by
  rw [renewW_eq]
  cases rev with
  | false => rw [if_pos h]
  | true =>
    split
    · rfl
    · first | rfl | rw [if_pos h]

theorem renew_err {c : Case} (h : soundAll c ≠ 0) : renewE c = (([], false), soundAll c) := by
  unfold renewE
  rw [if_neg (show ¬ lookE c (checkC c).2.2 = 0 from h)]; rfl

end Go.PX

namespace Go.PX
open Go.Proofs

theorem ascB_iff {below start : Int} : ∀ {r : List Int} {start : Int}, AscB below start r ↔ r.Pairwise (· < ·) ∧ ∀ x ∈ r, start ≤ x ∧ x < below
  | [], _ => by simp [AscB]
  | a :: r, start => by
    simp only [AscB, List.pairwise_cons, List.forall_mem_cons]
    rw [ascB_iff (start := start) (r := r)]
    constructor
    · rintro ⟨h1, h2, h3, h4⟩
      exact ⟨⟨fun x hx => by have := h4 x hx; omega, h3⟩, ⟨h1, h2⟩, fun x hx => by have := h4 x hx; omega⟩
    · rintro ⟨⟨h1, h2⟩, ⟨h3, h4⟩, h5⟩
      exact ⟨h3, h4, h2, fun x hx => by have := h1 x hx; have := h5 x hx; omega⟩

/-- Indices, counted from the other end. -/
def mirror (n : Int) (q : List Int) : List Int := (q.map fun x => n - 1 - x).reverse

theorem mirror_mem {n k : Int} {q : List Int} : k ∈ mirror n q ↔ n - 1 - k ∈ q := by
  unfold mirror
  rw [List.mem_reverse, List.mem_map]
  constructor
  · rintro ⟨x, hx, rfl⟩
    rwa [show n - 1 - (n - 1 - x) = x by omega]
  · intro h
    exact ⟨n - 1 - k, h, by omega⟩

theorem mirror_asc {n : Int} {q : List Int} (h : AscB n 0 q) : AscB n 0 (mirror n q) := by
  rw [ascB_iff (start := 0)] at h ⊢
  refine ⟨?_, fun x hx => ?_⟩
  · unfold mirror
    rw [List.pairwise_reverse, List.pairwise_map]
    exact h.1.imp fun hab => by omega
  · have := h.2 _ (mirror_mem.1 hx)
    omega

theorem mirror_len (n : Int) (q : List Int) : (mirror n q).length = q.length := by simp [mirror]

theorem turnT_rev (x : List Span) (rev : Bool) : turnT x.reverse rev = turnT x (!rev) := by
  cases rev <;> simp [turnT]

theorem ok_back {c : Case} {q : List Int} (h : AscB c.chain.shots.length 0 q) (rev : Bool) : okRun (turnC c true) (thickL (turnC c true)) q rev = okRun c (thickL c) (mirror c.chain.shots.length q) (!rev) := by
  have hq : ∀ i ∈ q, 0 ≤ i ∧ i < c.chain.shots.length := fun i hi => h.mem i hi
  have hm : ∀ i ∈ mirror c.chain.shots.length q, 0 ≤ i ∧ i < c.chain.shots.length := fun i hi => (mirror_asc h).mem i hi
  have hlb : (turnC c true).chain.shots.length = c.chain.shots.length := by simp [turnC]
  have e : renewT (turnC c true) (thickL (turnC c true)) q = (renewT c (thickL c) (mirror c.chain.shots.length q)).reverse := by
    refine List.ext_getElem? fun k => ?_
    rw [renewT_get (c := turnC c true) (by rw [hlb]; exact hq) (by simp [thickL])]
    by_cases hk : k < c.chain.shots.length
    · rw [List.getElem?_reverse (by rw [renewT_len]; simpa [thickL] using hk), renewT_len, show (thickL c).length = c.chain.shots.length by simp [thickL], renewT_get hm (by simp [thickL])]
      have hmem : (((c.chain.shots.length - 1 - k : Nat) : Int) ∈ mirror c.chain.shots.length q) ↔ (k : Int) ∈ q := by
        rw [mirror_mem, show (c.chain.shots.length : Int) - 1 - ((c.chain.shots.length - 1 - k : Nat) : Int) = k by omega]
      have hs : (turnC c true).chain.shots[k]? = c.chain.shots[c.chain.shots.length - 1 - k]? := by
        show c.chain.shots.reverse[k]? = _
        rw [List.getElem?_reverse hk]
      have ht : (thickL (turnC c true))[k]? = (thickL c)[c.chain.shots.length - 1 - k]? := by
        rw [thick_turn]
        show (thickL c).reverse[k]? = _
        rw [List.getElem?_reverse (by simpa [thickL] using hk)]
        simp [thickL]
      rw [hs, ht]
      by_cases hkq : (k : Int) ∈ q
      · rw [if_pos hkq, if_pos (hmem.2 hkq)]
      · rw [if_neg hkq, if_neg fun h => hkq (hmem.1 h)]
    · rw [if_neg (fun h => by have := hq _ h; omega), List.getElem?_eq_none (by simp [thickL, turnC]; omega), List.getElem?_eq_none (by rw [List.length_reverse, renewT_len]; simp [thickL]; omega)]
  unfold okRun
  rw [e, turnT_rev, turn_turn]
  cases rev <;> rfl

theorem any_back {c : Case} {q : List Int} (h : AscB c.chain.shots.length 0 q) (hw : (renewW c (thickL c) q).2 = true) : (renewW (turnC c true) (thickL (turnC c true)) (mirror c.chain.shots.length q)).2 = true := by
  have h1 := renewW_true hw
  generalize (renewW c (thickL c) q).1 = rev at h1
  refine renewW_any (rev := !rev) ?_
  rw [ok_back (mirror_asc h)]
  have e : mirror c.chain.shots.length (mirror c.chain.shots.length q) = q := by
    unfold mirror
    rw [List.map_reverse, List.reverse_reverse, List.map_map]
    conv => rhs; rw [← List.map_id q]
    refine List.map_congr_left fun x _ => ?_
    simp only [Function.comp_apply, id_eq]
    omega
  rw [e, Bool.not_not]
  exact h1

theorem turn_self (c : Case) : turnC (turnC c true) true = c := by
  rw [turn_turn]; rfl

/-- Whichever way a chain lies, as many shots are renewed. -/
theorem back_len {c : Case} (h : soundAll c = 0) : (renewE (turnC c true)).2 = (renewE c).2 ∧ (renewE (turnC c true)).1.1.length = (renewE c).1.1.length ∧ (renewE c).1.1.length ≤ c.chain.shots.length := by
  have hb := turn_all h true
  rw [renew_find h, renew_find hb]
  have hl : (turnC c true).chain.shots.length = c.chain.shots.length := by simp [turnC]
  rw [hl]
  cases h1 : firstL (fun q => (renewW c (thickL c) q).2) c.chain.shots.length with
  | none =>
    cases h2 : firstL (fun q => (renewW (turnC c true) (thickL (turnC c true)) q).2) c.chain.shots.length with
    | none => exact ⟨rfl, rfl, Nat.zero_le _⟩
    | some q =>
      exfalso
      obtain ⟨a1, a2, _⟩ := first_some h2
      have hw := any_back (c := turnC c true) (by rw [hl]; exact a1) a2
      rw [turn_self, hl] at hw
      have := first_none h1 _ (mirror_asc a1)
      rw [hw] at this; cases this
  | some p =>
    obtain ⟨p1, p2, p3⟩ := first_some h1
    cases h2 : firstL (fun q => (renewW (turnC c true) (thickL (turnC c true)) q).2) c.chain.shots.length with
    | none =>
      exfalso
      have := first_none h2 _ (mirror_asc p1)
      rw [any_back p1 p2] at this; cases this
    | some q =>
      obtain ⟨a1, a2, a3⟩ := first_some h2
      have hw := any_back (c := turnC c true) (by rw [hl]; exact a1) a2
      rw [turn_self, hl] at hw
      have k1 := p3 _ (mirror_asc a1) hw
      have k2 := a3 _ (mirror_asc p1) (any_back p1 p2)
      rw [mirror_len] at k1 k2
      have := p1.len (by omega)
      exact ⟨rfl, by simp only; omega, by simp only; omega⟩

theorem back_err {c : Case} (h : soundAll c ≠ 0) : (renewE (turnC c true)).2 ≠ 0 := by
  have hb : soundAll (turnC c true) ≠ 0 := fun hb => by
    have := turn_all hb true
    rw [turn_self] at this
    exact h this
  rw [renew_err hb]
  exact hb
end Go.PX
