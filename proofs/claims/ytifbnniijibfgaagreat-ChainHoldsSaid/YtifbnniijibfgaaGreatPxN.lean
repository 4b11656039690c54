import Derived.Test.YtifbnniijibfgaaGreatPxM
import Derived.Test.YtifbnniijibfgaaGreatPxL
set_option linter.all false
set_option maxRecDepth 10000
namespace Go.PX
open Go.Proofs

theorem CallA_rep {P : Program} {σ : Type} {Y : Hd σ} {st : St σ} {d : Option Nat} {f : FuncId} {args args' : List V} {K : St σ → Prop} (h : ∀ (yv : Option Nat) (L : Loc) (F : Nat → Nat) (w : World) (l : List Value), RepVL yv L F w args l → RepVL yv L F w args' l) (hc : CallA P Y st d f args' K) : CallA P Y st d f args K := by
  obtain ⟨h1, h2⟩ := hc
  exact ⟨h1, fun cx hY r m L F a w vals hg hd hr => h2 cx hY r m L F a w vals hg hd (h _ _ _ _ _ hr)⟩

/-- A nil slice that is handed over second is an empty list. -/
theorem CallA_nil1 {P : Program} {σ : Type} {Y : Hd σ} {st : St σ} {d : Option Nat} {f : FuncId} {a : V} {r : List V} {K : St σ → Prop} (hc : CallA P Y st d f (a :: .d (.vs []) :: r) K) : CallA P Y st d f (a :: .d .nils :: r) K := by
  refine CallA_rep (fun yv L F w l h => ?_) hc
  obtain ⟨x, l', rfl, h1, y, l'', rfl, h2, h3⟩ := h
  exact ⟨x, _, rfl, h1, y, _, rfl, RepD.relax .nils y h2, h3⟩

end Go.PX

namespace Go.PX
open Go.Proofs

theorem asc_cov {x : Int} : ∀ {l : List Span} {b : Int}, Asc b l → Cov x l → b ≤ x
  | s :: r, b, ⟨h1, h2, h3⟩, ⟨t, ht, k1, k2⟩ => by
    rcases List.mem_cons.1 ht with rfl | ht
    · omega
    · have := asc_cov h3 ⟨t, ht, k1, k2⟩
      omega
  | [], _, _, ⟨t, ht, _⟩ => by cases ht

theorem cov_cons {x : Int} {s : Span} {r : List Span} : Cov x (s :: r) ↔ (s.lo ≤ x ∧ x ≤ s.hi) ∨ Cov x r := by
  unfold Cov
  constructor
  · rintro ⟨t, ht, h⟩
    rcases List.mem_cons.1 ht with rfl | ht
    · exact .inl h
    · exact .inr ⟨t, ht, h⟩
  · rintro (h | ⟨t, ht, h⟩)
    · exact ⟨s, by simp, h⟩
    · exact ⟨t, by simp [ht], h⟩

/-- Spans that are apart are known by what they cover. -/
theorem asc_unique : ∀ {l l' : List Span} {b b' : Int}, Asc b l → Asc b' l' → (∀ x, Cov x l ↔ Cov x l') → l = l'
  | [], [], _, _, _, _, _ => rfl
  | [], s' :: r', _, _, _, ⟨_, h2, _⟩, h => by
    obtain ⟨t, ht, _⟩ := (h s'.lo).2 (cov_cons.2 (.inl ⟨Int.le_refl _, h2⟩))
    cases ht
  | s :: r, [], _, _, ⟨_, h2, _⟩, _, h => by
    obtain ⟨t, ht, _⟩ := (h s.lo).1 (cov_cons.2 (.inl ⟨Int.le_refl _, h2⟩))
    cases ht
  | s :: r, s' :: r', b, b', ⟨a1, a2, a3⟩, ⟨c1, c2, c3⟩, h => by
    have low : ∀ {u v : Span} {q : List Span}, u.lo ≤ u.hi → Asc (u.hi + 2) q → v.lo ≤ v.hi → Cov v.lo (u :: q) → u.lo ≤ v.lo := by
      intro u v q hu hq hv hc
      rcases cov_cons.1 hc with hc | hc
      · exact hc.1
      · have := asc_cov hq hc
        omega
    have e1 : s.lo = s'.lo := by
      have k1 := low (u := s') (v := s) c2 c3 a2 ((h s.lo).1 (cov_cons.2 (.inl ⟨Int.le_refl _, a2⟩)))
      have k2 := low (u := s) (v := s') a2 a3 c2 ((h s'.lo).2 (cov_cons.2 (.inl ⟨Int.le_refl _, c2⟩)))
      omega
    have e2 : s.hi = s'.hi := by
      by_cases h1 : s.hi < s'.hi
      · have k := (h (s.hi + 1)).2 (cov_cons.2 (.inl ⟨by omega, by omega⟩))
        rcases cov_cons.1 k with k | k
        · omega
        · have := asc_cov a3 k; omega
      · by_cases h2 : s'.hi < s.hi
        · have k := (h (s'.hi + 1)).1 (cov_cons.2 (.inl ⟨by omega, by omega⟩))
          rcases cov_cons.1 k with k | k
          · omega
          · have := asc_cov c3 k; omega
        · omega
    have es : s = s' := span_eq.2 ⟨e1, e2⟩
    subst es
    rw [asc_unique a3 c3 fun x => ?_]
    constructor
    · intro hx
      have hb := asc_cov a3 hx
      rcases cov_cons.1 ((h x).1 (cov_cons.2 (.inr hx))) with k | k
      · omega
      · exact k
    · intro hx
      have hb := asc_cov c3 hx
      rcases cov_cons.1 ((h x).2 (cov_cons.2 (.inr hx))) with k | k
      · omega
      · exact k

theorem asc_snoc {s : Span} : ∀ {o : List Span} {b : Int}, Asc b (o ++ [s]) ↔ Asc b o ∧ (∀ t ∈ o, t.hi + 2 ≤ s.lo) ∧ b ≤ s.lo ∧ s.lo ≤ s.hi
  | [], b => by simp [Asc]
  | t :: o, b => by
    show (b ≤ t.lo ∧ t.lo ≤ t.hi ∧ Asc (t.hi + 2) (o ++ [s])) ↔ _
    rw [asc_snoc (o := o)]
    simp only [Asc, List.forall_mem_cons]
    constructor
    · rintro ⟨h1, h2, h3, h4, h5, h6⟩
      exact ⟨⟨h1, h2, h3⟩, ⟨h5, h4⟩, by omega, h6⟩
    · rintro ⟨⟨h1, h2, h3⟩, ⟨h5, h4⟩, h6, h7⟩
      exact ⟨h1, h2, h3, h4, h5, h7⟩

def refStep (h : Int → Bool) (out : List Span) (i : Nat) : List Span :=
  if h ((i : Int) + 1) then (if i = 0 || !h i then out ++ [⟨(i : Int) + 1, (i : Int) + 1⟩] else out.dropLast ++ [⟨(out.getLast?.getD ⟨0, 0⟩).lo, (i : Int) + 1⟩]) else out
def refRuns (h : Int → Bool) : Nat → List Span
  | 0 => []
  | i + 1 => refStep h (refRuns h i) i

theorem refRuns_ok (h : Int → Bool) : ∀ (i : Nat), Asc 1 (refRuns h i) ∧ (∀ x : Int, Cov x (refRuns h i) ↔ (1 ≤ x ∧ x ≤ (i : Int) ∧ h x = true)) ∧ (i ≠ 0 → h i = true → ∃ (o : List Span) (s : Span), refRuns h i = o ++ [s] ∧ s.hi = (i : Int))
  | 0 => by
    refine ⟨trivial, fun x => ⟨fun hx => ?_, fun hx => by have := hx.1; have := hx.2.1; omega⟩, fun h => absurd rfl h⟩
    obtain ⟨t, ht, _⟩ := hx
    cases ht
  | i + 1 => by
    obtain ⟨ih1, ih2, ih3⟩ := refRuns_ok h i
    show Asc 1 (refStep h (refRuns h i) i) ∧ (∀ x : Int, Cov x (refStep h (refRuns h i) i) ↔ _) ∧ (_ → _ → ∃ (o : List Span) (s : Span), refStep h (refRuns h i) i = o ++ [s] ∧ s.hi = ((i + 1 : Nat) : Int))
    have hhi : ∀ t ∈ refRuns h i, t.lo ≤ t.hi ∧ 1 ≤ t.lo ∧ t.hi ≤ i ∧ h t.hi = true := by
      intro t ht
      obtain ⟨k, hk⟩ := List.mem_iff_getElem?.1 ht
      have h1 := ih1.get hk
      have h2 := (ih2 t.hi).1 ⟨t, ht, h1.2, Int.le_refl _⟩
      exact ⟨h1.2, h1.1, h2.2.1, h2.2.2⟩
    unfold refStep
    have ec : ((i + 1 : Nat) : Int) = (i : Int) + 1 := by omega
    rw [ec]
    by_cases hc : h ((i : Int) + 1) = true
    · rw [if_pos hc]
      by_cases hp : (i = 0 || !h i) = true
      · rw [if_pos hp]
        have hne : ∀ t ∈ refRuns h i, t.hi + 2 ≤ (i : Int) + 1 := by
          intro t ht
          have := hhi t ht
          by_cases he : t.hi = i
          · exfalso
            rw [he] at this
            simp only [Bool.or_eq_true, decide_eq_true_eq, Bool.not_eq_true'] at hp
            rcases hp with hp | hp
            · subst hp
              have := this.2.1
              have := this
              omega
            · rw [hp] at this; exact absurd this.2.2.2 (by decide)
          · omega
        refine ⟨asc_snoc.2 ⟨ih1, hne, by simp only; omega, by simp⟩, fun x => ?_, fun _ _ => ⟨_, _, rfl, rfl⟩⟩
        rw [cov_app, ih2]
        simp only
        constructor
        · rintro (⟨k1, k2, k3⟩ | ⟨k1, k2⟩)
          · exact ⟨k1, by omega, k3⟩
          · have : x = (i : Int) + 1 := by omega
            exact ⟨by omega, by omega, by rw [this]; exact hc⟩
        · rintro ⟨k1, k2, k3⟩
          by_cases hx : x = (i : Int) + 1
          · right; omega
          · left; exact ⟨k1, by omega, k3⟩
      · rw [if_neg hp]
        simp only [Bool.or_eq_true, decide_eq_true_eq, Bool.not_eq_true', not_or, Bool.not_eq_false] at hp
        obtain ⟨o, s, ho, hs⟩ := ih3 hp.1 hp.2
        rw [ho] at ih1 ih2 ⊢
        rw [List.dropLast_concat, List.getLast?_concat, Option.getD_some]
        obtain ⟨g1, g2, g3, g4⟩ := asc_snoc.1 ih1
        refine ⟨asc_snoc.2 ⟨g1, g2, g3, by simp only; omega⟩, fun x => ?_, fun _ _ => ⟨_, _, rfl, rfl⟩⟩
        have := ih2 x
        rw [cov_app] at this ⊢
        simp only
        constructor
        · rintro (k | ⟨k1, k2⟩)
          · have := this.1 (.inl k)
            exact ⟨this.1, by omega, this.2.2⟩
          · by_cases hx : x = (i : Int) + 1
            · exact ⟨by omega, by omega, by rw [hx]; exact hc⟩
            · have := this.1 (.inr ⟨k1, by omega⟩)
              exact ⟨this.1, by omega, this.2.2⟩
        · rintro ⟨k1, k2, k3⟩
          by_cases hx : x = (i : Int) + 1
          · right; omega
          · rcases this.2 ⟨k1, by omega, k3⟩ with k | k
            · exact .inl k
            · right; omega
    · rw [if_neg hc]
      refine ⟨ih1, fun x => ?_, fun _ hh => absurd hh hc⟩
      rw [ih2]
      constructor
      · rintro ⟨k1, k2, k3⟩; exact ⟨k1, by omega, k3⟩
      · rintro ⟨k1, k2, k3⟩
        by_cases hx : x = (i : Int) + 1
        · rw [hx] at k3; exact absurd k3 hc
        · exact ⟨k1, by omega, k3⟩

/-- Whether a chain holds in all weathers, with so many links out. -/
def heldB (c : Case) (th : List Span) (x : Int) : Bool := decide ((breakF c th x).1 = 0)

theorem runs_ref {c : Case} (hR : CaseR c) (th : List Span) : allRuns c th = refRuns (heldB c th) (linksF c.chain.shots).toNat := by
  have hl := links_ok hR
  obtain ⟨h1, h2, _⟩ := refRuns_ok (heldB c th) (linksF c.chain.shots).toNat
  refine asc_unique (allRuns_asc c th) h1 fun x => ?_
  rw [allRuns_cov hR, h2]
  unfold heldB
  rw [decide_eq_true_eq, show (((linksF c.chain.shots).toNat : Nat) : Int) = linksF c.chain.shots by omega]
end Go.PX

namespace Go.PX
open Go.Proofs

theorem rSome (n : Int) : FnV Tryz.prog 26 [i64 n] (i64 (max (-1) n)) := by
  refine fnV_of mixed tysOk Tryz.func26 rfl (ft := ft26) 1 (by decide +kernel) (by rfl) fun {σ} Y st => ?_
  conv => whnf
  exact RetA_view 0 rfl ⟨⟨rfl, rfl⟩, rfl⟩

/-- Is a weather asked for that is not there? -/
def askB (c : Case) (w : Int) : Bool := decide (w > -2) && badAt c w

theorem rVeer (c : Case) (w out : Int) : FnV Tryz.prog 25 [c.d, i64 w, i64 out] (i64 (goE c out (askB c w))) := by
  refine fnV_of mixed tysOk Tryz.func25 rfl (ft := ft25) 3 (by decide +kernel) (by rfl) fun {σ} Y st => ?_
  conv => whnf
  refine CallA_v (ds := [c.d]) (fn14 c) rfl rfl ?_
  conv => whnf
  by_cases hc : (checkC c).2.2 = 0
  · have hR := case_ok hc
    have hwl := hR.wlen
    have hlen := hR.lens
    rw [hc]
    conv => whnf
    have hgo : ∀ b, goE c out b = if b then 4 else if inB out 1 (linksF c.chain.shots) then 0 else 7 := fun b => by unfold goE; rw [if_neg (by simp [hc])]
    rw [hgo]
    by_cases h2 : w > -2
    · rw [decide_eq_true (show -2 < w from h2)]
      conv => whnf
      repeat' (first
        | (refine CallA_v (fn55 _ _ _) rfl rfl ?_; conv => whnf)
        | (refine CallA_view (fn55 _ _ _) rfl 1 rfl ?_; conv => whnf)
        | (refine DrawCall_v (fn55 _ _ _) rfl rfl ?_; conv => whnf)
        | (refine DrawCall_view (fn55 _ _ _) rfl 1 rfl ?_; conv => whnf)
        | (refine arith_in (wrap_i64 (by (try dsimp only); omega)) ?_; conv => whnf)
        | (refine elemK_nat (by assumption) ?_; conv => whnf)
        | (refine ownK_whole (by first | rfl | assumption | (simp [Els.len]; done) | (simp [Els.len]; omega)) ?_; conv => whnf)
        | (refine chk_i (by first | (exact decide_eq_true (by (try simp only [List.length_map]); omega)) | (simp [Els.len, Els.cons, V.cells, Els.toV, injL]; done) | (simp [Els.len, Els.cons, V.cells, Els.toV, injL]; omega)) ?_; conv => whnf)
        | fail)
      have hb : askB c w = !inB w 0 ((c.weathers.length : Int) - 1) := by unfold askB; rw [decide_eq_true h2]; rfl
      rw [hb, List.length_map]
      cases h3 : inB w 0 ((c.weathers.length : Int) - 1) with
      | true =>
        cases h4 : inB out 1 (linksF c.chain.shots) with
        | true =>
          repeat' (first
            | (refine CallA_v (fn34 c.chain (by omega) (links_bd hR)) rfl rfl ?_; conv => whnf)
            | (refine CallA_view (fn34 c.chain (by omega) (links_bd hR)) rfl 1 rfl ?_; conv => whnf)
            | (refine DrawCall_v (fn34 c.chain (by omega) (links_bd hR)) rfl rfl ?_; conv => whnf)
            | (refine DrawCall_view (fn34 c.chain (by omega) (links_bd hR)) rfl 1 rfl ?_; conv => whnf)
            | (refine CallA_v (fn55 _ _ _) rfl rfl ?_; conv => whnf)
            | (refine CallA_view (fn55 _ _ _) rfl 1 rfl ?_; conv => whnf)
            | (refine DrawCall_v (fn55 _ _ _) rfl rfl ?_; conv => whnf)
            | (refine DrawCall_view (fn55 _ _ _) rfl 1 rfl ?_; conv => whnf)
            | (rw [h3]; conv => whnf)
            | (rw [h4]; conv => whnf)
            | (refine arith_in (wrap_i64 (by (try dsimp only); omega)) ?_; conv => whnf)
            | (refine elemK_nat (by assumption) ?_; conv => whnf)
            | (refine ownK_whole (by first | rfl | assumption | (simp [Els.len]; done) | (simp [Els.len]; omega)) ?_; conv => whnf)
            | (refine chk_i (by first | (exact decide_eq_true (by (try simp only [List.length_map]); omega)) | (simp [Els.len, Els.cons, V.cells, Els.toV, injL]; done) | (simp [Els.len, Els.cons, V.cells, Els.toV, injL]; omega)) ?_; conv => whnf)
            | fail)
          exact RetA_view 0 rfl ⟨⟨rfl, rfl⟩, rfl⟩
        | false =>
          repeat' (first
            | (refine CallA_v (fn34 c.chain (by omega) (links_bd hR)) rfl rfl ?_; conv => whnf)
            | (refine CallA_view (fn34 c.chain (by omega) (links_bd hR)) rfl 1 rfl ?_; conv => whnf)
            | (refine DrawCall_v (fn34 c.chain (by omega) (links_bd hR)) rfl rfl ?_; conv => whnf)
            | (refine DrawCall_view (fn34 c.chain (by omega) (links_bd hR)) rfl 1 rfl ?_; conv => whnf)
            | (refine CallA_v (fn55 _ _ _) rfl rfl ?_; conv => whnf)
            | (refine CallA_view (fn55 _ _ _) rfl 1 rfl ?_; conv => whnf)
            | (refine DrawCall_v (fn55 _ _ _) rfl rfl ?_; conv => whnf)
            | (refine DrawCall_view (fn55 _ _ _) rfl 1 rfl ?_; conv => whnf)
            | (rw [h3]; conv => whnf)
            | (rw [h4]; conv => whnf)
            | (refine arith_in (wrap_i64 (by (try dsimp only); omega)) ?_; conv => whnf)
            | (refine elemK_nat (by assumption) ?_; conv => whnf)
            | (refine ownK_whole (by first | rfl | assumption | (simp [Els.len]; done) | (simp [Els.len]; omega)) ?_; conv => whnf)
            | (refine chk_i (by first | (exact decide_eq_true (by (try simp only [List.length_map]); omega)) | (simp [Els.len, Els.cons, V.cells, Els.toV, injL]; done) | (simp [Els.len, Els.cons, V.cells, Els.toV, injL]; omega)) ?_; conv => whnf)
            | fail)
          exact RetA_view 0 rfl ⟨⟨rfl, rfl⟩, rfl⟩
      | false =>
        repeat' (first
          | (rw [h3]; conv => whnf)
          | (refine CallA_v (fn55 _ _ _) rfl rfl ?_; conv => whnf)
          | (refine CallA_view (fn55 _ _ _) rfl 1 rfl ?_; conv => whnf)
          | (refine DrawCall_v (fn55 _ _ _) rfl rfl ?_; conv => whnf)
          | (refine DrawCall_view (fn55 _ _ _) rfl 1 rfl ?_; conv => whnf)
          | (refine arith_in (wrap_i64 (by (try dsimp only); omega)) ?_; conv => whnf)
          | (refine elemK_nat (by assumption) ?_; conv => whnf)
          | (refine ownK_whole (by first | rfl | assumption | (simp [Els.len]; done) | (simp [Els.len]; omega)) ?_; conv => whnf)
          | (refine chk_i (by first | (exact decide_eq_true (by (try simp only [List.length_map]); omega)) | (simp [Els.len, Els.cons, V.cells, Els.toV, injL]; done) | (simp [Els.len, Els.cons, V.cells, Els.toV, injL]; omega)) ?_; conv => whnf)
          | fail)
        exact RetA_view 0 rfl ⟨⟨rfl, rfl⟩, rfl⟩
    · rw [decide_eq_false (show ¬ -2 < w from h2)]
      have hb : askB c w = false := by unfold askB; rw [decide_eq_false h2]; rfl
      rw [hb]
      conv => whnf
      cases h4 : inB out 1 (linksF c.chain.shots) with
      | true =>
        repeat' (first
          | (refine CallA_v (fn34 c.chain (by omega) (links_bd hR)) rfl rfl ?_; conv => whnf)
          | (refine CallA_view (fn34 c.chain (by omega) (links_bd hR)) rfl 1 rfl ?_; conv => whnf)
          | (refine DrawCall_v (fn34 c.chain (by omega) (links_bd hR)) rfl rfl ?_; conv => whnf)
          | (refine DrawCall_view (fn34 c.chain (by omega) (links_bd hR)) rfl 1 rfl ?_; conv => whnf)
          | (refine CallA_v (fn55 _ _ _) rfl rfl ?_; conv => whnf)
          | (refine CallA_view (fn55 _ _ _) rfl 1 rfl ?_; conv => whnf)
          | (refine DrawCall_v (fn55 _ _ _) rfl rfl ?_; conv => whnf)
          | (refine DrawCall_view (fn55 _ _ _) rfl 1 rfl ?_; conv => whnf)
          | (rw [h4]; conv => whnf)
          | (refine arith_in (wrap_i64 (by (try dsimp only); omega)) ?_; conv => whnf)
          | (refine elemK_nat (by assumption) ?_; conv => whnf)
          | (refine ownK_whole (by first | rfl | assumption | (simp [Els.len]; done) | (simp [Els.len]; omega)) ?_; conv => whnf)
          | (refine chk_i (by first | (exact decide_eq_true (by (try simp only [List.length_map]); omega)) | (simp [Els.len, Els.cons, V.cells, Els.toV, injL]; done) | (simp [Els.len, Els.cons, V.cells, Els.toV, injL]; omega)) ?_; conv => whnf)
          | fail)
        exact RetA_view 0 rfl ⟨⟨rfl, rfl⟩, rfl⟩
      | false =>
        repeat' (first
          | (refine CallA_v (fn34 c.chain (by omega) (links_bd hR)) rfl rfl ?_; conv => whnf)
          | (refine CallA_view (fn34 c.chain (by omega) (links_bd hR)) rfl 1 rfl ?_; conv => whnf)
          | (refine DrawCall_v (fn34 c.chain (by omega) (links_bd hR)) rfl rfl ?_; conv => whnf)
          | (refine DrawCall_view (fn34 c.chain (by omega) (links_bd hR)) rfl 1 rfl ?_; conv => whnf)
          | (refine CallA_v (fn55 _ _ _) rfl rfl ?_; conv => whnf)
          | (refine CallA_view (fn55 _ _ _) rfl 1 rfl ?_; conv => whnf)
          | (refine DrawCall_v (fn55 _ _ _) rfl rfl ?_; conv => whnf)
          | (refine DrawCall_view (fn55 _ _ _) rfl 1 rfl ?_; conv => whnf)
          | (rw [h4]; conv => whnf)
          | (refine arith_in (wrap_i64 (by (try dsimp only); omega)) ?_; conv => whnf)
          | (refine elemK_nat (by assumption) ?_; conv => whnf)
          | (refine ownK_whole (by first | rfl | assumption | (simp [Els.len]; done) | (simp [Els.len]; omega)) ?_; conv => whnf)
          | (refine chk_i (by first | (exact decide_eq_true (by (try simp only [List.length_map]); omega)) | (simp [Els.len, Els.cons, V.cells, Els.toV, injL]; done) | (simp [Els.len, Els.cons, V.cells, Els.toV, injL]; omega)) ?_; conv => whnf)
          | fail)
        exact RetA_view 0 rfl ⟨⟨rfl, rfl⟩, rfl⟩
  · have hgo : goE c out (askB c w) = (checkC c).2.2 := by unfold goE; rw [if_pos hc]
    rw [hgo]
    generalize (checkC c).2.2 = e at *
    rw [decide_eq_false hc]
    conv => whnf
    rw [decide_eq_false hc]
    conv => whnf
    exact RetA_view 0 rfl ⟨⟨rfl, rfl⟩, rfl⟩

theorem ask_some (c : Case) (w : Int) : askB c (max (-1) w) = badAt c w := by
  unfold askB badAt
  by_cases h : 0 ≤ w
  · rw [show max (-1) w = w by omega, decide_eq_true (by omega)]; rfl
  · rw [show max (-1) w = -1 by omega]
    have h1 : inB (-1) 0 ((c.weathers.length : Int) - 1) = false := by unfold inB; simp
    have h2 : inB w 0 ((c.weathers.length : Int) - 1) = false := by unfold inB; simp; omega
    rw [h1, h2]; rfl

theorem ask_none (c : Case) : askB c (-2) = false := by
  unfold askB
  rw [decide_eq_false (by omega)]; rfl

theorem rPull (c : Case) (i out : Int) : FnV Tryz.prog 6 [c.d, i64 i, i64 out] (.tup [i64 (pullE c i out).1, i64 (pullE c i out).2]) := by
  refine fnV_of mixed tysOk Tryz.func6 rfl (ft := ft6) 3 (by decide +kernel) (by rfl) fun {σ} Y st => ?_
  conv => whnf
  repeat' (first
    | (refine CallA_v (rSome i) rfl rfl ?_; conv => whnf)
    | (refine CallA_view (rSome i) rfl 1 rfl ?_; conv => whnf)
    | (refine DrawCall_v (rSome i) rfl rfl ?_; conv => whnf)
    | (refine DrawCall_view (rSome i) rfl 1 rfl ?_; conv => whnf)
    | (refine CallA_v (rVeer c (max (-1) i) out) rfl rfl ?_; conv => whnf)
    | (refine CallA_view (rVeer c (max (-1) i) out) rfl 1 rfl ?_; conv => whnf)
    | (refine DrawCall_v (rVeer c (max (-1) i) out) rfl rfl ?_; conv => whnf)
    | (refine DrawCall_view (rVeer c (max (-1) i) out) rfl 1 rfl ?_; conv => whnf)
    | (refine arith_in (wrap_i64 (by (try dsimp only); omega)) ?_; conv => whnf)
    | (refine elemK_nat (by assumption) ?_; conv => whnf)
    | (refine ownK_whole (by first | rfl | assumption | (simp [Els.len]; done) | (simp [Els.len]; omega)) ?_; conv => whnf)
    | (refine chk_i (by first | (exact decide_eq_true (by (try simp only [List.length_map]); omega)) | (simp [Els.len, Els.cons, V.cells, Els.toV, injL]; done) | (simp [Els.len, Els.cons, V.cells, Els.toV, injL]; omega)) ?_; conv => whnf)
    | fail)
  rw [ask_some]
  unfold pullE
  by_cases h : goE c out (badAt c i) = 0
  · obtain ⟨hR, hb, ho1, ho2, ho3⟩ := goE_zero h
    obtain ⟨w, hi, hw, hm⟩ := badAt_ok hb
    rw [h]
    simp only [if_true, hw]
    conv => whnf
    refine elemK_i w.cells ⟨hi, by rw [List.getElem?_map, hw]; rfl⟩ ?_
    conv => whnf
    refine CallA_rep (args' := [.d c.ship.d, .d (pullT w).d, .d (i64 out)]) ?_ ?_
    · intro yv L F w l h
      obtain ⟨x, l', rfl, h1, y, l'', rfl, h2, h3⟩ := h
      exact ⟨x, _, rfl, h1, y, _, rfl, RepD.relax _ y h2, h3⟩
    refine CallA_v (ds := [c.ship.d, (pullT w).d, i64 out]) (fn82 c.ship (pullT w) out (pull_ok hR hm) (by omega)) rfl rfl ?_
    conv => whnf
    exact RetA_view 0 rfl ⟨⟨rfl, rfl⟩, rfl⟩
  · simp only [if_neg h]
    generalize goE c out (badAt c i) = e at *
    rw [decide_eq_false h]
    conv => whnf
    exact RetA_view 0 rfl ⟨⟨rfl, rfl⟩, rfl⟩

theorem rThin (c : Case) (hR : CaseR c) : FnV Tryz.prog 35 [c.d] (intsD ((thickL c).map Span.lo)) := by
  refine fnV_of mixed tysOk Tryz.func35 rfl (ft := ft35) 1 (by decide +kernel) (by rfl) fun {σ} Y st => ?_
  conv => whnf
  have hlen := hR.lens
  refine LoopA_i (T := tys) tysOk (by exact drawsB_spec mixed tysOk (by decide +kernel)) c.chain.shots (fun i (g : List (List D) × Nat) => ⟨[(1, .ptr 1 0), (3, .sl 41 1 0 g.2), (4, .d (i64 i))], [(1, .box (.dd c.cells)), (41, .arr 1 (.dd g.1))], st⟩)
    (fun i r g => g.1 = (((thickL c).map Span.lo).take i).map (fun n => [i64 n]) ∧ i = g.2) ([], 0) ((Wk.born 3 41 1 rfl rfl rfl).trans (Wk.sub ⟨rfl, rfl, rfl, trivial⟩ ⟨rfl, rfl, trivial⟩)) ⟨rfl, rfl⟩ ?_ ?_
  · rintro i s r ⟨es, k⟩ hs hi hr ⟨h1, h2⟩
    replace h1 : es = _ := h1
    replace h2 : i = k := h2
    subst h2
    have htx := thick_get hs
    have hti : i < (thickL c).length := by simp [thickL]; exact hi
    have hel : es.length = i := by rw [h1]; simp; omega
    conv => whnf
    refine brk_i (fun _ => ?_) (fun h => absurd hi (by simpa using h))
    conv => whnf
    repeat' (first
      | (refine CallA_v (hR.rng (List.mem_of_getElem? hs)) rfl rfl ?_; conv => whnf)
      | (refine CallA_view (hR.rng (List.mem_of_getElem? hs)) rfl 1 rfl ?_; conv => whnf)
      | (refine DrawCall_v (hR.rng (List.mem_of_getElem? hs)) rfl rfl ?_; conv => whnf)
      | (refine DrawCall_view (hR.rng (List.mem_of_getElem? hs)) rfl 1 rfl ?_; conv => whnf)
      | (refine arith_in (wrap_i64 (by (try dsimp only); omega)) ?_; conv => whnf)
      | (refine elemK_nat (by assumption) ?_; conv => whnf)
      | (refine ownK_whole (by first | rfl | assumption | (simp [Els.len]; done) | (simp [Els.len]; omega)) ?_; conv => whnf)
      | (refine chk_i (by first | (exact decide_eq_true (by (try simp only [List.length_map]); omega)) | (simp [Els.len, Els.cons, V.cells, Els.toV, injL]; done) | (simp [Els.len, Els.cons, V.cells, Els.toV, injL]; omega)) ?_; conv => whnf)
      | fail)
    refine ⟨(_, _), ⟨?_, ?_⟩, (Wk.sub ⟨rfl, rfl, rfl, trivial⟩ ⟨rfl, rfl, trivial⟩)⟩
    · rw [h1]
      simp only [List.take_succ, List.map_append]
      simp [htx]
    · simp [Els.len]; omega
  · rintro ⟨es, k⟩ ⟨h1, h2⟩
    replace h1 : es = _ := h1
    replace h2 : _ = k := h2
    rw [List.take_of_length_le (by simp [thickL])] at h1
    subst h1 h2
    conv => whnf
    refine brk_i (fun h => absurd h (by simp)) (fun _ => ?_)
    conv => whnf
    exact RetA_sl rfl (by simp [thickL]) ⟨⟨rfl, rfl⟩, rfl⟩

theorem rWorst (c : Case) (w : Weather) : FnV Tryz.prog 34 [c.d, w.d, intsD ((thickL c).map Span.lo)] (worstT c (thickL c) w).d := by
  refine fnV_of mixed tysOk Tryz.func34 rfl (ft := ft34) 3 (by decide +kernel) (by rfl) fun {σ} Y st => ?_
  conv => whnf
  exact RetA_view 0 rfl ⟨⟨rfl, rfl⟩, rfl⟩
end Go.PX

namespace Go.PX
open Go.Proofs

theorem rSound (c : Case) (e : Int) (h : e = 0 → CaseR c) : FnV Tryz.prog 30 [c.d, i64 e] (i64 (lookE c e)) :=
  FnV.cast (fn68 c e fun he => (h he).caseOk) (by rw [lookE_eq])

theorem worst_bd {c : Case} (hR : CaseR c) (w : Weather) : ∀ n ∈ (worstT c (thickL c) w).thick, bd n := by
  intro n hn
  obtain ⟨s, hs, rfl⟩ := List.mem_map.1 hn
  have := (moor_ok hR).th s hs
  exact ⟨by omega, by omega⟩

theorem rFirst (c : Case) (out : Int) (hR : CaseR c) (ho : 0 ≤ out ∧ out ≤ 1000) : FnV Tryz.prog 31 [c.d, i64 out] (.tup [i64 (breakF c (thickL c) out).1, i64 (breakF c (thickL c) out).2.1, i64 (breakF c (thickL c) out).2.2]) := by
  refine fnV_of mixed tysOk Tryz.func31 rfl (ft := ft31) 2 (by decide +kernel) (by rfl) fun {σ} Y st => ?_
  conv => whnf
  have hwl := hR.wlen
  refine CallA_v (ds := [c.d]) (rThin c hR) rfl rfl ?_
  conv => whnf
  refine LoopA_i (T := tys) tysOk (by exact drawsB_spec mixed tysOk (by decide +kernel)) c.weathers (fun i (_ : Unit) => ⟨[(1, .d (i64 out)), (2, .ptr 2 0), (4, .d (i64 0)), (5, .d (i64 0)), (6, .d (i64 0)), (7, .d (intsD ((thickL c).map Span.lo))), (8, .d (i64 i))], [(2, .box (.dd c.cells))], st⟩)
    (fun i r _ => breakF c (thickL c) out = breakL c (thickL c) out r i) () (Wk.sub ⟨rfl, rfl, rfl, rfl, rfl, rfl, rfl, trivial⟩ ⟨rfl, trivial⟩) rfl ?_ ?_
  · intro i w r _ hw hi hr he
    have hm := List.mem_of_getElem? hw
    have hF := worst_ok (moor_ok hR) hm
    have hjd : judgeF c (worstT c (thickL c) w) out = judgeW c (thickL c) out w := rfl
    simp only [breakL] at he
    conv => whnf
    refine brk_i (fun _ => ?_) (fun h => absurd hi (by simpa using h))
    conv => whnf
    refine elemK_nat hw ?_
    conv => whnf
    refine DrawCall_v (ds := [c.d, w.d, intsD ((thickL c).map Span.lo)]) (rWorst c w) rfl rfl ?_
    conv => whnf
    refine DrawCall_v (ds := [c.d, i64 out, (worstT c (thickL c) w).d]) (fn37 c (worstT c (thickL c) w) out hR hF ho (by simp [worstT, thickL]) (worst_bd hR w)) rfl rfl ?_
    rw [hjd]
    conv => whnf
    by_cases h : (judgeW c (thickL c) out w).1 = 0
    · rw [if_neg (by simp [h])] at he
      rw [decide_eq_true h]
      conv => whnf
      repeat' (first
        | (refine arith_in (wrap_i64 (by (try dsimp only); omega)) ?_; conv => whnf)
        | (refine elemK_nat (by assumption) ?_; conv => whnf)
        | (refine ownK_whole (by first | rfl | assumption | (simp [Els.len]; done) | (simp [Els.len]; omega)) ?_; conv => whnf)
        | (refine chk_i (by first | (exact decide_eq_true (by (try simp only [List.length_map]); omega)) | (simp [Els.len, Els.cons, V.cells, Els.toV, injL]; done) | (simp [Els.len, Els.cons, V.cells, Els.toV, injL]; omega)) ?_; conv => whnf)
        | fail)
      exact ⟨(), he, (Wk.sub ⟨rfl, rfl, rfl, rfl, rfl, rfl, rfl, trivial⟩ ⟨rfl, trivial⟩)⟩
    · rw [if_pos h] at he
      rw [decide_eq_false h, he]
      conv => whnf
      exact RetA_view 0 rfl ⟨⟨rfl, rfl⟩, rfl⟩
  · intro _ he
    have he : breakF c (thickL c) out = (0, 0, 0) := he
    rw [he]
    conv => whnf
    refine brk_i (fun h => absurd h (by simp)) (fun _ => ?_)
    conv => whnf
    exact RetA_view 0 rfl ⟨⟨rfl, rfl⟩, rfl⟩

theorem rWhy (c : Case) (out : Int) : FnV Tryz.prog 8 [c.d, i64 out] (.tup [i64 (whyE c out).1.1, i64 (whyE c out).1.2.1, i64 (whyE c out).1.2.2, i64 (whyE c out).2]) := by
  refine fnV_of mixed tysOk Tryz.func8 rfl (ft := ft8) 2 (by decide +kernel) (by rfl) fun {σ} Y st => ?_
  conv => whnf
  refine DrawCall_v (ds := [c.d, i64 (-2), i64 out]) (rVeer c (-2) out) rfl rfl ?_
  rw [ask_none]
  conv => whnf
  refine DrawCall_v (ds := [c.d, i64 (goE c out false)]) (rSound c (goE c out false) fun h => (goE_zero h).1) rfl rfl ?_
  unfold whyE
  by_cases h : lookE c (goE c out false) = 0
  · obtain ⟨hR, _, ho1, ho2, ho3⟩ := goE_zero (lookE_zero h).1
    rw [h]
    simp only [if_true]
    conv => whnf
    refine CallA_v (ds := [c.d, i64 out]) (rFirst c out hR (by omega)) rfl rfl ?_
    conv => whnf
    exact RetA_view 0 rfl ⟨⟨rfl, rfl⟩, rfl⟩
  · simp only [if_neg h]
    generalize lookE c (goE c out false) = e at *
    conv => whnf
    rw [decide_eq_false h]
    conv => whnf
    exact RetA_view 0 rfl ⟨⟨rfl, rfl⟩, rfl⟩

theorem rShow (c : Case) (i out : Int) : FnV Tryz.prog 10 [c.d, i64 i, i64 out] (.tup [(showE c i out).1, i64 (showE c i out).2.1.1, i64 (showE c i out).2.1.2, i64 (showE c i out).2.2]) := by
  refine fnV_of mixed tysOk Tryz.func10 rfl (ft := ft10) 3 (by decide +kernel) (by rfl) fun {σ} Y st => ?_
  conv => whnf
  repeat' (first
    | (refine CallA_v (rSome i) rfl rfl ?_; conv => whnf)
    | (refine CallA_view (rSome i) rfl 1 rfl ?_; conv => whnf)
    | (refine DrawCall_v (rSome i) rfl rfl ?_; conv => whnf)
    | (refine DrawCall_view (rSome i) rfl 1 rfl ?_; conv => whnf)
    | (refine CallA_v (rVeer c (max (-1) i) out) rfl rfl ?_; conv => whnf)
    | (refine CallA_view (rVeer c (max (-1) i) out) rfl 1 rfl ?_; conv => whnf)
    | (refine DrawCall_v (rVeer c (max (-1) i) out) rfl rfl ?_; conv => whnf)
    | (refine DrawCall_view (rVeer c (max (-1) i) out) rfl 1 rfl ?_; conv => whnf)
    | (refine arith_in (wrap_i64 (by (try dsimp only); omega)) ?_; conv => whnf)
    | (refine elemK_nat (by assumption) ?_; conv => whnf)
    | (refine ownK_whole (by first | rfl | assumption | (simp [Els.len]; done) | (simp [Els.len]; omega)) ?_; conv => whnf)
    | (refine chk_i (by first | (exact decide_eq_true (by (try simp only [List.length_map]); omega)) | (simp [Els.len, Els.cons, V.cells, Els.toV, injL]; done) | (simp [Els.len, Els.cons, V.cells, Els.toV, injL]; omega)) ?_; conv => whnf)
    | fail)
  rw [ask_some]
  refine DrawCall_v (ds := [c.d, i64 (goE c out (badAt c i))]) (rSound c (goE c out (badAt c i)) fun h => (goE_zero h).1) rfl rfl ?_
  unfold showE
  by_cases h : lookE c (goE c out (badAt c i)) = 0
  · obtain ⟨hR, hb, ho1, ho2, ho3⟩ := goE_zero (lookE_zero h).1
    obtain ⟨w, hi, hw, hm⟩ := badAt_ok hb
    have hF := worst_ok (moor_ok hR) hm
    have hjd : judgeF c (worstT c (thickL c) w) out = judgeW c (thickL c) out w := rfl
    rw [h]
    simp only [if_true, hw]
    conv => whnf
    refine elemK_i w.cells ⟨hi, by rw [List.getElem?_map, hw]; rfl⟩ ?_
    conv => whnf
    refine DrawCall_v (ds := [c.d]) (rThin c hR) rfl rfl ?_
    conv => whnf
    refine DrawCall_v (ds := [c.d, w.d, intsD ((thickL c).map Span.lo)]) (rWorst c w) rfl rfl ?_
    conv => whnf
    refine CallA_v (ds := [c.d, i64 out, (worstT c (thickL c) w).d]) (fn37 c (worstT c (thickL c) w) out hR hF (by omega) (by simp [worstT, thickL]) (worst_bd hR w)) rfl rfl ?_
    rw [hjd]
    conv => whnf
    exact RetA_view 0 rfl ⟨⟨rfl, rfl⟩, rfl⟩
  · simp only [if_neg h]
    generalize lookE c (goE c out (badAt c i)) = e at *
    conv => whnf
    rw [decide_eq_false h]
    conv => whnf
    exact RetA_view 0 rfl ⟨⟨rfl, rfl⟩, rfl⟩

theorem rIn (c : Case) (i out : Int) (t : Truth) : FnV Tryz.prog 13 [c.d, i64 i, i64 out, t.d] (.tup [i64 (inE c i out t).1.1, i64 (inE c i out t).1.2, i64 (inE c i out t).2]) := by
  refine fnV_of mixed tysOk Tryz.func13 rfl (ft := ft13) 4 (by decide +kernel) (by rfl) fun {σ} Y st => ?_
  conv => whnf
  repeat' (first
    | (refine CallA_v (rSome i) rfl rfl ?_; conv => whnf)
    | (refine CallA_view (rSome i) rfl 1 rfl ?_; conv => whnf)
    | (refine DrawCall_v (rSome i) rfl rfl ?_; conv => whnf)
    | (refine DrawCall_view (rSome i) rfl 1 rfl ?_; conv => whnf)
    | (refine CallA_v (rVeer c (max (-1) i) out) rfl rfl ?_; conv => whnf)
    | (refine CallA_view (rVeer c (max (-1) i) out) rfl 1 rfl ?_; conv => whnf)
    | (refine DrawCall_v (rVeer c (max (-1) i) out) rfl rfl ?_; conv => whnf)
    | (refine DrawCall_view (rVeer c (max (-1) i) out) rfl 1 rfl ?_; conv => whnf)
    | (refine arith_in (wrap_i64 (by (try dsimp only); omega)) ?_; conv => whnf)
    | (refine elemK_nat (by assumption) ?_; conv => whnf)
    | (refine ownK_whole (by first | rfl | assumption | (simp [Els.len]; done) | (simp [Els.len]; omega)) ?_; conv => whnf)
    | (refine chk_i (by first | (exact decide_eq_true (by (try simp only [List.length_map]); omega)) | (simp [Els.len, Els.cons, V.cells, Els.toV, injL]; done) | (simp [Els.len, Els.cons, V.cells, Els.toV, injL]; omega)) ?_; conv => whnf)
    | fail)
  rw [ask_some]
  refine DrawCall_v (ds := [c.d, i64 (goE c out (badAt c i))]) (rSound c (goE c out (badAt c i)) fun h => (goE_zero h).1) rfl rfl ?_
  unfold inE
  by_cases h : lookE c (goE c out (badAt c i)) = 0
  · obtain ⟨hR, hb, ho1, ho2, ho3⟩ := goE_zero (lookE_zero h).1
    obtain ⟨w, hi, hw, hm⟩ := badAt_ok hb
    rw [h]
    simp only [if_true, hw]
    conv => whnf
    refine elemK_i w.cells ⟨hi, by rw [List.getElem?_map, hw]; rfl⟩ ?_
    conv => whnf
    refine DrawCall_v (ds := [c.d, w.d, t.d]) (fn36 c w t hR) rfl rfl ?_
    unfold truthE
    by_cases hl : t.thick.length = c.chain.shots.length
    · simp only [if_pos hl]
      cases hb2 : outL (bandsL c w) (valsL t) with
      | true =>
        simp only [if_true]
        conv => whnf
        exact RetA_view 0 rfl ⟨⟨rfl, rfl⟩, rfl⟩
      | false =>
        simp only [Bool.false_eq_true, if_false]
        obtain ⟨hF, hbd⟩ := bands_ok hR hm hl hb2
        conv => whnf
        refine CallA_v (ds := [c.d, i64 out, t.d]) (fn37 c t out hR hF (by omega) hl hbd) rfl rfl ?_
        conv => whnf
        exact RetA_view 0 rfl ⟨⟨rfl, rfl⟩, rfl⟩
    · simp only [if_neg hl]
      conv => whnf
      exact RetA_view 0 rfl ⟨⟨rfl, rfl⟩, rfl⟩
  · simp only [if_neg h]
    generalize lookE c (goE c out (badAt c i)) = e at *
    conv => whnf
    rw [decide_eq_false h]
    conv => whnf
    rw [decide_eq_false h]
    conv => whnf
    exact RetA_view 0 rfl ⟨⟨rfl, rfl⟩, rfl⟩
end Go.PX

namespace Go.PX
open Go.Proofs

theorem sameT_self (t : Truth) : sameT t t = true := by simp [sameT]

def mooredD (i out : Int) (t : Truth) : D := .agg (i64 i :: i64 out :: t.cells)
def zeroT : Truth := ⟨0, 0, 0, 0, 0, []⟩

theorem law3 (c : Case) (i out : Int) (t : Truth) : FnV Tryz.prog 3 [c.d, mooredD i out t] (.bool true) := by
  refine fnV_of mixed tysOk Tryz.func3 rfl (ft := ft3) 2 (by decide +kernel) (by rfl) fun {σ} Y st => ?_
  conv => whnf
  refine CallA_v (ds := [c.d, i64 i, i64 out]) (fn24 c i out) rfl rfl ?_
  conv => whnf
  refine CallA_v (ds := [c.d, i64 i, i64 out]) (rPull c i out) rfl rfl ?_
  generalize pullE c i out = p
  conv => whnf
  rw [self_t]
  conv => whnf
  rw [self_t]
  conv => whnf
  refine CallA_v (ds := [c.d, i64 out]) (fn25 c out) rfl rfl ?_
  conv => whnf
  refine CallA_v (ds := [c.d, i64 out]) (rWhy c out) rfl rfl ?_
  generalize whyE c out = y
  conv => whnf
  rw [self_t]
  conv => whnf
  rw [self_t]
  conv => whnf
  rw [self_t]
  conv => whnf
  rw [self_t]
  conv => whnf
  refine CallA_v (ds := [c.d, i64 i, i64 out]) (fn35 c i out) rfl rfl ?_
  have hs : (∃ u : Truth, (showE c i out).1 = u.d ∧ u.thick.length < 1000000) ∨ (showE c i out).1 = noTruth := by
    unfold showE
    split
    · rename_i h
      obtain ⟨hR, _⟩ := goE_zero (lookE_zero h).1
      split
      · rename_i w _
        have := hR.lens
        exact .inl ⟨worstT c (thickL c) w, rfl, by simp [worstT, thickL]; omega⟩
      · exact .inr rfl
    · exact .inr rfl
  have hsh := rShow c i out (σ := σ)
  obtain ⟨r, hr⟩ : ∃ r, showE c i out = r := ⟨_, rfl⟩
  rw [hr] at hs ⊢
  rcases hs with ⟨u, hu, hul⟩ | hu
  · rw [hu]
    conv => whnf
    refine CallA_v (ds := [c.d, i64 i, i64 out]) (rShow c i out) rfl rfl ?_
    rw [hr, hu]
    conv => whnf
    refine CallA_v (ds := [u.d, u.d]) (fn71 u u hul) rfl rfl ?_
    rw [sameT_self]
    conv => whnf
    rw [self_t]
    conv => whnf
    rw [self_t]
    conv => whnf
    rw [self_t]
    conv => whnf
    refine CallA_v (ds := [c.d, i64 i, i64 out, t.d]) (fn39 c i out t) rfl rfl ?_
    conv => whnf
    refine CallA_v (ds := [c.d, i64 i, i64 out, t.d]) (rIn c i out t) rfl rfl ?_
    generalize inE c i out t = q
    conv => whnf
    rw [self_t]
    conv => whnf
    rw [self_t]
    conv => whnf
    rw [self_t]
    conv => whnf
    refine CallA_v (fn22) rfl rfl ?_
    conv => whnf
    exact RetA_view 0 rfl ⟨⟨rfl, rfl⟩, rfl⟩
  · rw [hu]
    conv => whnf
    refine CallA_v (ds := [c.d, i64 i, i64 out]) (rShow c i out) rfl rfl ?_
    rw [hr, hu]
    conv => whnf
    refine CallA_rep (args' := [.d zeroT.d, .d zeroT.d]) ?_ ?_
    · intro yv L F w l h
      obtain ⟨x, l', rfl, h1, y, l'', rfl, h2, h3⟩ := h
      exact ⟨x, _, rfl, RepD.relax _ x h1, y, _, rfl, RepD.relax _ y h2, h3⟩
    refine CallA_v (ds := [zeroT.d, zeroT.d]) (fn71 zeroT zeroT (by simp [zeroT])) rfl rfl ?_
    rw [sameT_self]
    conv => whnf
    rw [self_t]
    conv => whnf
    rw [self_t]
    conv => whnf
    rw [self_t]
    conv => whnf
    refine CallA_v (ds := [c.d, i64 i, i64 out, t.d]) (fn39 c i out t) rfl rfl ?_
    conv => whnf
    refine CallA_v (ds := [c.d, i64 i, i64 out, t.d]) (rIn c i out t) rfl rfl ?_
    generalize inE c i out t = q
    conv => whnf
    rw [self_t]
    conv => whnf
    rw [self_t]
    conv => whnf
    rw [self_t]
    conv => whnf
    refine CallA_v (fn22) rfl rfl ?_
    conv => whnf
    exact RetA_view 0 rfl ⟨⟨rfl, rfl⟩, rfl⟩
end Go.PX

namespace Go.PX
open Go.Proofs Go.RowKit Go.ChangeShapes
section
variable (W : World)
theorem z33 : Tryz.prog.cellsOf 33 = 1 := by kernel_rfl
theorem z35 : Tryz.prog.cellsOf 35 = 6 := by kernel_rfl
theorem z37 : Tryz.prog.cellsOf 37 = 8 := by kernel_rfl
theorem rdInts : Rd Tryz.prog W 33 fun ds => ∃ l : List Int, ds = [intsD l] :=
  (Rd.slice Tryz.underlying33 c3 (by omega) (rdInt W)).mono fun ds h => by
    obtain ⟨es, rfl, he⟩ := h
    obtain ⟨l, rfl⟩ := list_of (f := fun n => [i64 n]) (fun _ h => h) he
    exact ⟨l, rfl⟩

theorem rdTruth : Rd Tryz.prog W 35 fun ds => ∃ t : Truth, ds = t.cells :=
  (Rd.struct Tryz.underlying35 z35 (.cons rfl c3 (rdInt W) (.cons rfl c3 (rdInt W) (.cons rfl c3 (rdInt W) (.cons rfl c3 (rdInt W) (.cons rfl c3 (rdInt W) (.cons rfl z33 (rdInts W) (.nil _)))))))).mono fun ds h => by
    obtain ⟨_, _, rfl, ⟨a, rfl⟩, _, _, rfl, ⟨b, rfl⟩, _, _, rfl, ⟨c, rfl⟩, _, _, rfl, ⟨d, rfl⟩, _, _, rfl, ⟨e, rfl⟩, _, _, rfl, ⟨f, rfl⟩, rfl⟩ := h
    exact ⟨⟨a, b, c, d, e, f⟩, rfl⟩

theorem rdMoored : Rd Tryz.prog W 37 fun ds => ∃ (i out : Int) (t : Truth), ds = i64 i :: i64 out :: t.cells :=
  (Rd.struct Tryz.underlying37 z37 (.cons rfl c3 (rdInt W) (.cons rfl c3 (rdInt W) (.cons rfl z35 (rdTruth W) (.nil _))))).mono fun ds h => by
    obtain ⟨_, _, rfl, ⟨a, rfl⟩, _, _, rfl, ⟨b, rfl⟩, _, _, rfl, ⟨t, rfl⟩, rfl⟩ := h
    exact ⟨a, b, t, by simp⟩
end
end Go.PX
