import Derived.Test.YtifbnniijibfgaaGreatPxM
import Derived.Test.YtifbnniijibfgaaGreatPxL
set_option linter.all false
set_option maxRecDepth 10000
namespace Go.PX
open Go.Proofs

theorem CallA_rep {P : Program} {σ : Type} {Y : Hd σ} {st : St σ} {d : Option Nat} {f : FuncId} {args args' : List V} {K : St σ → Prop} (h : ∀ (yv : Option Nat) (L : Loc) (F : Nat → Nat) (w : World) (l : List Value), RepVL yv L F w args l → RepVL yv L F w args' l) (hc : CallA P Y st d f args' K) : CallA P Y st d f args K := by
  obtain ⟨h1, h2⟩ := hc
  exact ⟨h1, fun cx hY r m L F a w vals hg hd hr => h2 cx hY r m L F a w vals hg hd (h _ _ _ _ _ hr)⟩

/-- A nil slice that is handed over second is an empty list. -/
theorem CallA_nil1 {P : Program} {σ : Type} {Y : Hd σ} {st : St σ} {d : Option Nat} {f : FuncId} {a : V} {r : List V} {K : St σ → Prop} (hc : CallA P Y st d f (a :: .d (.vs []) :: r) K) : CallA P Y st d f (a :: .d .nils :: r) K := by
  refine CallA_rep (fun yv L F w l h => ?_) hc
  obtain ⟨x, l', rfl, h1, y, l'', rfl, h2, h3⟩ := h
  exact ⟨x, _, rfl, h1, y, _, rfl, RepD.relax .nils y h2, h3⟩

end Go.PX

namespace Go.PX
open Go.Proofs

theorem asc_cov {x : Int} : ∀ {l : List Span} {b : Int}, Asc b l → Cov x l → b ≤ x
  | s :: r, b, ⟨h1, h2, h3⟩, ⟨t, ht, k1, k2⟩ => by
    rcases List.mem_cons.1 ht with rfl | ht
    · omega
    · have := asc_cov h3 ⟨t, ht, k1, k2⟩
      omega
  | [], _, _, ⟨t, ht, _⟩ => by cases ht

theorem cov_cons {x : Int} {s : Span} {r : List Span} : Cov x (s :: r) ↔ (s.lo ≤ x ∧ x ≤ s.hi) ∨ Cov x r := by
  unfold Cov
  constructor
  · rintro ⟨t, ht, h⟩
    rcases List.mem_cons.1 ht with rfl | ht
    · exact .inl h
    · exact .inr ⟨t, ht, h⟩
  · rintro (h | ⟨t, ht, h⟩)
    · exact ⟨s, by simp, h⟩
    · exact ⟨t, by simp [ht], h⟩

/-- Spans that are apart are known by what they cover. -/
theorem asc_unique : ∀ {l l' : List Span} {b b' : Int}, Asc b l → Asc b' l' → (∀ x, Cov x l ↔ Cov x l') → l = l'
  | [], [], _, _, _, _, _ => rfl
  | [], s' :: r', _, _, _, ⟨_, h2, _⟩, h => by
    obtain ⟨t, ht, _⟩ := (h s'.lo).2 (cov_cons.2 (.inl ⟨Int.le_refl _, h2⟩))
    cases ht
  | s :: r, [], _, _, ⟨_, h2, _⟩, _, h => by
    obtain ⟨t, ht, _⟩ := (h s.lo).1 (cov_cons.2 (.inl ⟨Int.le_refl _, h2⟩))
    cases ht
  | s :: r, s' :: r', b, b', ⟨a1, a2, a3⟩, ⟨c1, c2, c3⟩, h => by
    have low : ∀ {u v : Span} {q : List Span}, u.lo ≤ u.hi → Asc (u.hi + 2) q → v.lo ≤ v.hi → Cov v.lo (u :: q) → u.lo ≤ v.lo := by
      intro u v q hu hq hv hc
      rcases cov_cons.1 hc with hc | hc
      · exact hc.1
      · have := asc_cov hq hc
        omega
    have e1 : s.lo = s'.lo := by
      have k1 := low (u := s') (v := s) c2 c3 a2 ((h s.lo).1 (cov_cons.2 (.inl ⟨Int.le_refl _, a2⟩)))
      have k2 := low (u := s) (v := s') a2 a3 c2 ((h s'.lo).2 (cov_cons.2 (.inl ⟨Int.le_refl _, c2⟩)))
      omega
    have e2 : s.hi = s'.hi := by
      by_cases h1 : s.hi < s'.hi
      · have k := (h (s.hi + 1)).2 (cov_cons.2 (.inl ⟨by omega, by omega⟩))
        rcases cov_cons.1 k with k | k
        · omega
        · have := asc_cov a3 k; omega
      · by_cases h2 : s'.hi < s.hi
        · have k := (h (s'.hi + 1)).1 (cov_cons.2 (.inl ⟨by omega, by omega⟩))
          rcases cov_cons.1 k with k | k
          · omega
          · have := asc_cov c3 k; omega
        · omega
    have es : s = s' := span_eq.2 ⟨e1, e2⟩
    subst es
    rw [asc_unique a3 c3 fun x => ?_]
    constructor
    · intro hx
      have hb := asc_cov a3 hx
      rcases cov_cons.1 ((h x).1 (cov_cons.2 (.inr hx))) with k | k
      · omega
      · exact k
    · intro hx
      have hb := asc_cov c3 hx
      rcases cov_cons.1 ((h x).2 (cov_cons.2 (.inr hx))) with k | k
      · omega
      · exact k

theorem asc_snoc {s : Span} : ∀ {o : List Span} {b : Int}, Asc b (o ++ [s]) ↔ Asc b o ∧ (∀ t ∈ o, t.hi + 2 ≤ s.lo) ∧ b ≤ s.lo ∧ s.lo ≤ s.hi
  | [], b => by simp [Asc]
  | t :: o, b => by
    show (b ≤ t.lo ∧ t.lo ≤ t.hi ∧ Asc (t.hi + 2) (o ++ [s])) ↔ _
    rw [asc_snoc (o := o)]
    simp only [Asc, List.forall_mem_cons]
    constructor
    · rintro ⟨h1, h2, h3, h4, h5, h6⟩
      exact ⟨⟨h1, h2, h3⟩, ⟨h5, h4⟩, by omega, h6⟩
    · rintro ⟨⟨h1, h2, h3⟩, ⟨h5, h4⟩, h6, h7⟩
      exact ⟨h1, h2, h3, h4, h5, h7⟩

def refStep (h : Int → Bool) (out : List Span) (i : Nat) : List Span :=
  if h ((i : Int) + 1) then (if i = 0 || !h i then out ++ [⟨(i : Int) + 1, (i : Int) + 1⟩] else out.dropLast ++ [⟨(out.getLast?.getD ⟨0, 0⟩).lo, (i : Int) + 1⟩]) else out
def refRuns (h : Int → Bool) : Nat → List Span
  | 0 => []
  | i + 1 => refStep h (refRuns h i) i

theorem refRuns_ok (h : Int → Bool) : ∀ (i : Nat), Asc 1 (refRuns h i) ∧ (∀ x : Int, Cov x (refRuns h i) ↔ (1 ≤ x ∧ x ≤ (i : Int) ∧ h x = true)) ∧ (i ≠ 0 → h i = true → ∃ (o : List Span) (s : Span), refRuns h i = o ++ [s] ∧ s.hi = (i : Int))
  | 0 => by
    refine ⟨trivial, fun x => ⟨fun hx => ?_, fun hx => by have := hx.1; have := hx.2.1; omega⟩, fun h => absurd rfl h⟩
    obtain ⟨t, ht, _⟩ := hx
    cases ht
  | i + 1 => by
    obtain ⟨ih1, ih2, ih3⟩ := refRuns_ok h i
    show Asc 1 (refStep h (refRuns h i) i) ∧ (∀ x : Int, Cov x (refStep h (refRuns h i) i) ↔ _) ∧ (_ → _ → ∃ (o : List Span) (s : Span), refStep h (refRuns h i) i = o ++ [s] ∧ s.hi = ((i + 1 : Nat) : Int))
    have hhi : ∀ t ∈ refRuns h i, t.lo ≤ t.hi ∧ 1 ≤ t.lo ∧ t.hi ≤ i ∧ h t.hi = true := by
      intro t ht
      obtain ⟨k, hk⟩ := List.mem_iff_getElem?.1 ht
      have h1 := ih1.get hk
      have h2 := (ih2 t.hi).1 ⟨t, ht, h1.2, Int.le_refl _⟩
      exact ⟨h1.2, h1.1, h2.2.1, h2.2.2⟩
    unfold refStep
    have ec : ((i + 1 : Nat) : Int) = (i : Int) + 1 := by omega
    rw [ec]
    by_cases hc : h ((i : Int) + 1) = true
    · rw [if_pos hc]
      by_cases hp : (i = 0 || !h i) = true
      · rw [if_pos hp]
        have hne : ∀ t ∈ refRuns h i, t.hi + 2 ≤ (i : Int) + 1 := by
          intro t ht
          have := hhi t ht
          by_cases he : t.hi = i
          · exfalso
            rw [he] at this
            simp only [Bool.or_eq_true, decide_eq_true_eq, Bool.not_eq_true'] at hp
            rcases hp with hp | hp
            · subst hp
              have := this.2.1
              have := this
              omega
            · rw [hp] at this; exact absurd this.2.2.2 (by decide)
          · omega
        refine ⟨asc_snoc.2 ⟨ih1, hne, by simp only; omega, by simp⟩, fun x => ?_, fun _ _ => ⟨_, _, rfl, rfl⟩⟩
        rw [cov_app, ih2]
        simp only
        constructor
        · rintro (⟨k1, k2, k3⟩ | ⟨k1, k2⟩)
          · exact ⟨k1, by omega, k3⟩
          · have : x = (i : Int) + 1 := by omega
            exact ⟨by omega, by omega, by rw [this]; exact hc⟩
        · rintro ⟨k1, k2, k3⟩
          by_cases hx : x = (i : Int) + 1
          · right; omega
          · left; exact ⟨k1, by omega, k3⟩
      · rw [if_neg hp]
        simp only [Bool.or_eq_true, decide_eq_true_eq, Bool.not_eq_true', not_or, Bool.not_eq_false] at hp
        obtain ⟨o, s, ho, hs⟩ := ih3 hp.1 hp.2
        rw [ho] at ih1 ih2 ⊢
        rw [List.dropLast_concat, List.getLast?_concat, Option.getD_some]
        obtain ⟨g1, g2, g3, g4⟩ := asc_snoc.1 ih1
        refine ⟨asc_snoc.2 ⟨g1, g2, g3, by simp only; omega⟩, fun x => ?_, fun _ _ => ⟨_, _, rfl, rfl⟩⟩
        have := ih2 x
        rw [cov_app] at this ⊢
        simp only
        constructor
        · rintro (k | ⟨k1, k2⟩)
          · have := this.1 (.inl k)
            exact ⟨this.1, by omega, this.2.2⟩
          · by_cases hx : x = (i : Int) + 1
            · exact ⟨by omega, by omega, by rw [hx]; exact hc⟩
            · have := this.1 (.inr ⟨k1, by omega⟩)
              exact ⟨this.1, by omega, this.2.2⟩
        · rintro ⟨k1, k2, k3⟩
          by_cases hx : x = (i : Int) + 1
          · right; omega
          · rcases this.2 ⟨k1, by omega, k3⟩ with k | k
            · exact .inl k
            · right; omega
    · rw [if_neg hc]
      refine ⟨ih1, fun x => ?_, fun _ hh => absurd hh hc⟩
      rw [ih2]
      constructor
      · rintro ⟨k1, k2, k3⟩; exact ⟨k1, by omega, k3⟩
      · rintro ⟨k1, k2, k3⟩
        by_cases hx : x = (i : Int) + 1
        · rw [hx] at k3; exact absurd k3 hc
        · exact ⟨k1, by omega, k3⟩

/-- Whether a chain holds in all weathers, with so many links out. -/
def heldB (c : Case) (th : List Span) (x : Int) : Bool := decide ((breakF c th x).1 = 0)

theorem runs_ref {c : Case} (hR : CaseR c) (th : List Span) : allRuns c th = refRuns (heldB c th) (linksF c.chain.shots).toNat := by
  have hl := links_ok hR
  obtain ⟨h1, h2, _⟩ := refRuns_ok (heldB c th) (linksF c.chain.shots).toNat
  refine asc_unique (allRuns_asc c th) h1 fun x => ?_
  rw [allRuns_cov hR, h2]
  unfold heldB
  rw [decide_eq_true_eq, show (((linksF c.chain.shots).toNat : Nat) : Int) = linksF c.chain.shots by omega]
end Go.PX

namespace Go.PX
open Go.Proofs

theorem rSome (n : Int) : FnV Tryz.prog 26 [i64 n] (i64 (max (-1) n)) := by
  refine fnV_of mixed tysOk Tryz.func26 rfl (ft := ft26) 1 (by decide +kernel) (by rfl) fun {σ} Y st => ?_
  conv => whnf
  exact RetA_view 0 rfl ⟨⟨rfl, rfl⟩, rfl⟩

/-- Is a weather asked for that is not there? -/
def askB (c : Case) (w : Int) : Bool := decide (w > -2) && badAt c w

theorem rVeer (c : Case) (w out : Int) : FnV Tryz.prog 25 [c.d, i64 w, i64 out] (i64 (goE c out (askB c w))) := by
  refine fnV_of mixed tysOk Tryz.func25 rfl (ft := ft25) 3 (by decide +kernel) (by rfl) fun {σ} Y st => ?_
  conv => whnf
  refine CallA_v (ds := [c.d]) (fn14 c) rfl rfl ?_
  conv => whnf
  by_cases hc : (checkC c).2.2 = 0
  · have hR := case_ok hc
    have hwl := hR.wlen
    have hlen := hR.lens
    rw [hc]
    conv => whnf
    have hgo : ∀ b, goE c out b = if b then 4 else if inB out 1 (linksF c.chain.shots) then 0 else 7 := fun b => by unfold goE; rw [if_neg (by simp [hc])]
    rw [hgo]
    by_cases h2 : w > -2
    · rw [decide_eq_true (show -2 < w from h2)]
      conv => whnf
      repeat' (first
        | (refine CallA_v (fn55 _ _ _) rfl rfl ?_; conv => whnf)
        | (refine CallA_view (fn55 _ _ _) rfl 1 rfl ?_; conv => whnf)
        | (refine DrawCall_v (fn55 _ _ _) rfl rfl ?_; conv => whnf)
        | (refine DrawCall_view (fn55 _ _ _) rfl 1 rfl ?_; conv => whnf)
        | (refine arith_in (wrap_i64 (by (try dsimp only); omega)) ?_; conv => whnf)
        | (refine elemK_nat (by assumption) ?_; conv => whnf)
        | (refine ownK_whole (by first | rfl | assumption | (simp [Els.len]; done) | (simp [Els.len]; omega)) ?_; conv => whnf)
        | (refine chk_i (by first | (exact decide_eq_true (by (try simp only [List.length_map]); omega)) | (simp [Els.len, Els.cons, V.cells, Els.toV, injL]; done) | (simp [Els.len, Els.cons, V.cells, Els.toV, injL]; omega)) ?_; conv => whnf)
        | fail)
      have hb : askB c w = !inB w 0 ((c.weathers.length : Int) - 1) := by unfold askB; rw [decide_eq_true h2]; rfl
      rw [hb, List.length_map]
      cases h3 : inB w 0 ((c.weathers.length : Int) - 1) with
      | true =>
        cases h4 : inB out 1 (linksF c.chain.shots) with
        | true =>
          repeat' (first
            | (refine CallA_v (fn34 c.chain (by omega) (links_bd hR)) rfl rfl ?_; conv => whnf)
            | (refine CallA_view (fn34 c.chain (by omega) (links_bd hR)) rfl 1 rfl ?_; conv => whnf)
            | (refine DrawCall_v (fn34 c.chain (by omega) (links_bd hR)) rfl rfl ?_; conv => whnf)
            | (refine DrawCall_view (fn34 c.chain (by omega) (links_bd hR)) rfl 1 rfl ?_; conv => whnf)
            | (refine CallA_v (fn55 _ _ _) rfl rfl ?_; conv => whnf)
            | (refine CallA_view (fn55 _ _ _) rfl 1 rfl ?_; conv => whnf)
            | (refine DrawCall_v (fn55 _ _ _) rfl rfl ?_; conv => whnf)
            | (refine DrawCall_view (fn55 _ _ _) rfl 1 rfl ?_; conv => whnf)
            | (rw [h3]; conv => whnf)
            | (rw [h4]; conv => whnf)
            | (refine arith_in (wrap_i64 (by (try dsimp only); omega)) ?_; conv => whnf)
            | (refine elemK_nat (by assumption) ?_; conv => whnf)
            | (refine ownK_whole (by first | rfl | assumption | (simp [Els.len]; done) | (simp [Els.len]; omega)) ?_; conv => whnf)
            | (refine chk_i (by first | (exact decide_eq_true (by (try simp only [List.length_map]); omega)) | (simp [Els.len, Els.cons, V.cells, Els.toV, injL]; done) | (simp [Els.len, Els.cons, V.cells, Els.toV, injL]; omega)) ?_; conv => whnf)
            | fail)
          exact RetA_view 0 rfl ⟨⟨rfl, rfl⟩, rfl⟩
        | false =>
          repeat' (first
            | (refine CallA_v (fn34 c.chain (by omega) (links_bd hR)) rfl rfl ?_; conv => whnf)
            | (refine CallA_view (fn34 c.chain (by omega) (links_bd hR)) rfl 1 rfl ?_; conv => whnf)
            | (refine DrawCall_v (fn34 c.chain (by omega) (links_bd hR)) rfl rfl ?_; conv => whnf)
            | (refine DrawCall_view (fn34 c.chain (by omega) (links_bd hR)) rfl 1 rfl ?_; conv => whnf)
            | (refine CallA_v (fn55 _ _ _) rfl rfl ?_; conv => whnf)
            | (refine CallA_view (fn55 _ _ _) rfl 1 rfl ?_; conv => whnf)
            | (refine DrawCall_v (fn55 _ _ _) rfl rfl ?_; conv => whnf)
            | (refine DrawCall_view (fn55 _ _ _) rfl 1 rfl ?_; conv => whnf)
            | (rw [h3]; conv => whnf)
            | (rw [h4]; conv => whnf)
            | (refine arith_in (wrap_i64 (by (try dsimp only); omega)) ?_; conv => whnf)
            | (refine elemK_nat (by assumption) ?_; conv => whnf)
            | (refine ownK_whole (by first | rfl | assumption | (simp [Els.len]; done) | (simp [Els.len]; omega)) ?_; conv => whnf)
            | (refine chk_i (by first | (exact decide_eq_true (by (try simp only [List.length_map]); omega)) | (simp [Els.len, Els.cons, V.cells, Els.toV, injL]; done) | (simp [Els.len, Els.cons, V.cells, Els.toV, injL]; omega)) ?_; conv => whnf)
            | fail)
          exact RetA_view 0 rfl ⟨⟨rfl, rfl⟩, rfl⟩
      | false =>
        repeat' (first
          | (rw [h3]; conv => whnf)
          | (refine CallA_v (fn55 _ _ _) rfl rfl ?_; conv => whnf)
          | (refine CallA_view (fn55 _ _ _) rfl 1 rfl ?_; conv => whnf)
          | (refine DrawCall_v (fn55 _ _ _) rfl rfl ?_; conv => whnf)
          | (refine DrawCall_view (fn55 _ _ _) rfl 1 rfl ?_; conv => whnf)
          | (refine arith_in (wrap_i64 (by (try dsimp only); omega)) ?_; conv => whnf)
          | (refine elemK_nat (by assumption) ?_; conv => whnf)
          | (refine ownK_whole (by first | rfl | assumption | (simp [Els.len]; done) | (simp [Els.len]; omega)) ?_; conv => whnf)
          | (refine chk_i (by first | (exact decide_eq_true (by (try simp only [List.length_map]); omega)) | (simp [Els.len, Els.cons, V.cells, Els.toV, injL]; done) | (simp [Els.len, Els.cons, V.cells, Els.toV, injL]; omega)) ?_; conv => whnf)
          | fail)
        exact RetA_view 0 rfl ⟨⟨rfl, rfl⟩, rfl⟩
    · rw [decide_eq_false (show ¬ -2 < w from h2)]
      have hb : askB c w = false := by unfold askB; rw [decide_eq_false h2]; rfl
      rw [hb]
      conv => whnf
      cases h4 : inB out 1 (linksF c.chain.shots) with
      | true =>
        repeat' (first
          | (refine CallA_v (fn34 c.chain (by omega) (links_bd hR)) rfl rfl ?_; conv => whnf)
          | (refine CallA_view (fn34 c.chain (by omega) (links_bd hR)) rfl 1 rfl ?_; conv => whnf)
          | (refine DrawCall_v (fn34 c.chain (by omega) (links_bd hR)) rfl rfl ?_; conv => whnf)
          | (refine DrawCall_view (fn34 c.chain (by omega) (links_bd hR)) rfl 1 rfl ?_; conv => whnf)
          | (refine CallA_v (fn55 _ _ _) rfl rfl ?_; conv => whnf)
          | (refine CallA_view (fn55 _ _ _) rfl 1 rfl ?_; conv => whnf)
          | (refine DrawCall_v (fn55 _ _ _) rfl rfl ?_; conv => whnf)
          | (refine DrawCall_view (fn55 _ _ _) rfl 1 rfl ?_; conv => whnf)
          | (rw [h4]; conv => whnf)
          | (refine arith_in (wrap_i64 (by (try dsimp only); omega)) ?_; conv => whnf)
          | (refine elemK_nat (by assumption) ?_; conv => whnf)
          | (refine ownK_whole (by first | rfl | assumption | (simp [Els.len]; done) | (simp [Els.len]; omega)) ?_; conv => whnf)
          | (refine chk_i (by first | (exact decide_eq_true (by (try simp only [List.length_map]); omega)) | (simp [Els.len, Els.cons, V.cells, Els.toV, injL]; done) | (simp [Els.len, Els.cons, V.cells, Els.toV, injL]; omega)) ?_; conv => whnf)
          | fail)
        exact RetA_view 0 rfl ⟨⟨rfl, rfl⟩, rfl⟩
      | false =>
        repeat' (first
          | (refine CallA_v (fn34 c.chain (by omega) (links_bd hR)) rfl rfl ?_; conv => whnf)
          | (refine CallA_view (fn34 c.chain (by omega) (links_bd hR)) rfl 1 rfl ?_; conv => whnf)
          | (refine DrawCall_v (fn34 c.chain (by omega) (links_bd hR)) rfl rfl ?_; conv => whnf)
          | (refine DrawCall_view (fn34 c.chain (by omega) (links_bd hR)) rfl 1 rfl ?_; conv => whnf)
          | (refine CallA_v (fn55 _ _ _) rfl rfl ?_; conv => whnf)
          | (refine CallA_view (fn55 _ _ _) rfl 1 rfl ?_; conv => whnf)
          | (refine DrawCall_v (fn55 _ _ _) rfl rfl ?_; conv => whnf)
          | (refine DrawCall_view (fn55 _ _ _) rfl 1 rfl ?_; conv => whnf)
          | (rw [h4]; conv => whnf)
          | (refine arith_in (wrap_i64 (by (try dsimp only); omega)) ?_; conv => whnf)
          | (refine elemK_nat (by assumption) ?_; conv => whnf)
          | (refine ownK_whole (by first | rfl | assumption | (simp [Els.len]; done) | (simp [Els.len]; omega)) ?_; conv => whnf)
          | (refine chk_i (by first | (exact decide_eq_true (by (try simp only [List.length_map]); omega)) | (simp [Els.len, Els.cons, V.cells, Els.toV, injL]; done) | (simp [Els.len, Els.cons, V.cells, Els.toV, injL]; omega)) ?_; conv => whnf)
          | fail)
        exact RetA_view 0 rfl ⟨⟨rfl, rfl⟩, rfl⟩
  · have hgo : goE c out (askB c w) = (checkC c).2.2 := by unfold goE; rw [if_pos hc]
    rw [hgo]
    generalize (checkC c).2.2 = e at *
    rw [decide_eq_false hc]
    conv => whnf
    rw [decide_eq_false hc]
    conv => whnf
    exact RetA_view 0 rfl ⟨⟨rfl, rfl⟩, rfl⟩

theorem ask_some (c : Case) (w : Int) : askB c (max (-1) w) = badAt c w := by
  unfold askB badAt
  by_cases h : 0 ≤ w
  · rw [show max (-1) w = w by omega, decide_eq_true (by omega)]; rfl
  · rw [show max (-1) w = -1 by omega]
    have h1 : inB (-1) 0 ((c.weathers.length : Int) - 1) = false := by unfold inB; simp
    have h2 : inB w 0 ((c.weathers.length : Int) - 1) = false := by unfold inB; simp; omega
    rw [h1, h2]; rfl

theorem ask_none (c : Case) : askB c (-2) = false := by
  unfold askB
  rw [decide_eq_false (by omega)]; rfl

theorem rPull (c : Case) (i out : Int) : FnV Tryz.prog 6 [c.d, i64 i, i64 out] (.tup [i64 (pullE c i out).1, i64 (pullE c i out).2]) := by
  refine fnV_of mixed tysOk Tryz.func6 rfl (ft := ft6) 3 (by decide +kernel) (by rfl) fun {σ} Y st => ?_
  conv => whnf
  repeat' (first
    | (refine CallA_v (rSome i) rfl rfl ?_; conv => whnf)
    | (refine CallA_view (rSome i) rfl 1 rfl ?_; conv => whnf)
    | (refine DrawCall_v (rSome i) rfl rfl ?_; conv => whnf)
    | (refine DrawCall_view (rSome i) rfl 1 rfl ?_; conv => whnf)
    | (refine CallA_v (rVeer c (max (-1) i) out) rfl rfl ?_; conv => whnf)
    | (refine CallA_view (rVeer c (max (-1) i) out) rfl 1 rfl ?_; conv => whnf)
    | (refine DrawCall_v (rVeer c (max (-1) i) out) rfl rfl ?_; conv => whnf)
    | (refine DrawCall_view (rVeer c (max (-1) i) out) rfl 1 rfl ?_; conv => whnf)
    | (refine arith_in (wrap_i64 (by (try dsimp only); omega)) ?_; conv => whnf)
    | (refine elemK_nat (by assumption) ?_; conv => whnf)
    | (refine ownK_whole (by first | rfl | assumption | (simp [Els.len]; done) | (simp [Els.len]; omega)) ?_; conv => whnf)
    | (refine chk_i (by first | (exact decide_eq_true (by (try simp only [List.length_map]); omega)) | (simp [Els.len, Els.cons, V.cells, Els.toV, injL]; done) | (simp [Els.len, Els.cons, V.cells, Els.toV, injL]; omega)) ?_; conv => whnf)
    | fail)
  rw [ask_some]
  unfold pullE
  by_cases h : goE c out (badAt c i) = 0
  · obtain ⟨hR, hb, ho1, ho2, ho3⟩ := goE_zero h
    obtain ⟨w, hi, hw, hm⟩ := badAt_ok hb
    rw [h]
    simp only [if_true, hw]
    conv => whnf
    refine elemK_i w.cells ⟨hi, by rw [List.getElem?_map, hw]; rfl⟩ ?_
    conv => whnf
    refine CallA_rep (args' := [.d c.ship.d, .d (pullT w).d, .d (i64 out)]) ?_ ?_
    · intro yv L F w l h
      obtain ⟨x, l', rfl, h1, y, l'', rfl, h2, h3⟩ := h
      exact ⟨x, _, rfl, h1, y, _, rfl, RepD.relax _ y h2, h3⟩
    refine CallA_v (ds := [c.ship.d, (pullT w).d, i64 out]) (fn82 c.ship (pullT w) out (pull_ok hR hm) (by omega)) rfl rfl ?_
    conv => whnf
    exact RetA_view 0 rfl ⟨⟨rfl, rfl⟩, rfl⟩
  · simp only [if_neg h]
    generalize goE c out (badAt c i) = e at *
    rw [decide_eq_false h]
    conv => whnf
    exact RetA_view 0 rfl ⟨⟨rfl, rfl⟩, rfl⟩

theorem rThin (c : Case) (hR : CaseR c) : FnV Tryz.prog 35 [c.d] (intsD ((thickL c).map Span.lo)) := by
  refine fnV_of mixed tysOk Tryz.func35 rfl (ft := ft35) 1 (by decide +kernel) (by rfl) fun {σ} Y st => ?_
  conv => whnf
  have hlen := hR.lens
  refine LoopA_i (T := tys) tysOk (by exact drawsB_spec mixed tysOk (by decide +kernel)) c.chain.shots (fun i (g : List (List D) × Nat) => ⟨[(1, .ptr 1 0), (3, .sl 41 1 0 g.2), (4, .d (i64 i))], [(1, .box (.dd c.cells)), (41, .arr 1 (.dd g.1))], st⟩)
    (fun i r g => g.1 = (((thickL c).map Span.lo).take i).map (fun n => [i64 n]) ∧ i = g.2) ([], 0) ((Wk.born 3 41 1 rfl rfl rfl).trans (Wk.sub ⟨rfl, rfl, rfl, trivial⟩ ⟨rfl, rfl, trivial⟩)) ⟨rfl, rfl⟩ ?_ ?_
  · rintro i s r ⟨es, k⟩ hs hi hr ⟨h1, h2⟩
    replace h1 : es = _ := h1
    replace h2 : i = k := h2
    subst h2
    have htx := thick_get hs
    have hti : i < (thickL c).length := by simp [thickL]; exact hi
    have hel : es.length = i := by rw [h1]; simp; omega
    conv => whnf
    refine brk_i (fun _ => ?_) (fun h => absurd hi (by simpa using h))
    conv => whnf
    repeat' (first
      | (refine CallA_v (hR.rng (List.mem_of_getElem? hs)) rfl rfl ?_; conv => whnf)
      | (refine CallA_view (hR.rng (List.mem_of_getElem? hs)) rfl 1 rfl ?_; conv => whnf)
      | (refine DrawCall_v (hR.rng (List.mem_of_getElem? hs)) rfl rfl ?_; conv => whnf)
      | (refine DrawCall_view (hR.rng (List.mem_of_getElem? hs)) rfl 1 rfl ?_; conv => whnf)
      | (refine arith_in (wrap_i64 (by (try dsimp only); omega)) ?_; conv => whnf)
      | (refine elemK_nat (by assumption) ?_; conv => whnf)
      | (refine ownK_whole (by first | rfl | assumption | (simp [Els.len]; done) | (simp [Els.len]; omega)) ?_; conv => whnf)
      | (refine chk_i (by first | (exact decide_eq_true (by (try simp only [List.length_map]); omega)) | (simp [Els.len, Els.cons, V.cells, Els.toV, injL]; done) | (simp [Els.len, Els.cons, V.cells, Els.toV, injL]; omega)) ?_; conv => whnf)
      | fail)
    refine ⟨(_, _), ⟨?_, ?_⟩, (Wk.sub ⟨rfl, rfl, rfl, trivial⟩ ⟨rfl, rfl, trivial⟩)⟩
    · rw [h1]
      simp only [List.take_succ, List.map_append]
      simp [htx]
    · simp [Els.len]; omega
  · rintro ⟨es, k⟩ ⟨h1, h2⟩
    replace h1 : es = _ := h1
    replace h2 : _ = k := h2
    rw [List.take_of_length_le (by simp [thickL])] at h1
    subst h1 h2
    conv => whnf
    refine brk_i (fun h => absurd h (by simp)) (fun _ => ?_)
    conv => whnf
    exact RetA_sl rfl (by simp [thickL]) ⟨⟨rfl, rfl⟩, rfl⟩

theorem rWorst (c : Case) (w : Weather) : FnV Tryz.prog 34 [c.d, w.d, intsD ((thickL c).map Span.lo)] (worstT c (thickL c) w).d := by
  refine fnV_of mixed tysOk Tryz.func34 rfl (ft := ft34) 3 (by decide +kernel) (by rfl) fun {σ} Y st => ?_
  conv => whnf
  exact RetA_view 0 rfl ⟨⟨rfl, rfl⟩, rfl⟩
end Go.PX

namespace Go.PX
open Go.Proofs

theorem rSound (c : Case) (e : Int) (h : e = 0 → CaseR c) : FnV Tryz.prog 30 [c.d, i64 e] (i64 (lookE c e)) :=
  FnV.cast (fn68 c e fun he => (h he).caseOk) (by rw [lookE_eq])

theorem worst_bd {c : Case} (hR : CaseR c) (w : Weather) : ∀ n ∈ (worstT c (thickL c) w).thick, bd n := by
  intro n hn
  obtain ⟨s, hs, rfl⟩ := List.mem_map.1 hn
  have := (moor_ok hR).th s hs
  exact ⟨by omega, by omega⟩

theorem rFirst (c : Case) (out : Int) (hR : CaseR c) (ho : 0 ≤ out ∧ out ≤ 1000) : FnV Tryz.prog 31 [c.d, i64 out] (.tup [i64 (breakF c (thickL c) out).1, i64 (breakF c (thickL c) out).2.1, i64 (breakF c (thickL c) out).2.2]) := by
  refine fnV_of mixed tysOk Tryz.func31 rfl (ft := ft31) 2 (by decide +kernel) (by rfl) fun {σ} Y st => ?_
  conv => whnf
  have hwl := hR.wlen
  refine CallA_v (ds := [c.d]) (rThin c hR) rfl rfl ?_
  conv => whnf
  refine LoopA_i (T := tys) tysOk (by exact drawsB_spec mixed tysOk (by decide +kernel)) c.weathers (fun i (_ : Unit) => ⟨[(1, .d (i64 out)), (2, .ptr 2 0), (4, .d (i64 0)), (5, .d (i64 0)), (6, .d (i64 0)), (7, .d (intsD ((thickL c).map Span.lo))), (8, .d (i64 i))], [(2, .box (.dd c.cells))], st⟩)
    (fun i r _ => breakF c (thickL c) out = breakL c (thickL c) out r i) () (Wk.sub ⟨rfl, rfl, rfl, rfl, rfl, rfl, rfl, trivial⟩ ⟨rfl, trivial⟩) rfl ?_ ?_
  · intro i w r _ hw hi hr he
    have hm := List.mem_of_getElem? hw
    have hF := worst_ok (moor_ok hR) hm
    have hjd : judgeF c (worstT c (thickL c) w) out = judgeW c (thickL c) out w := rfl
    simp only [breakL] at he
    conv => whnf
    refine brk_i (fun _ => ?_) (fun h => absurd hi (by simpa using h))
    conv => whnf
    refine elemK_nat hw ?_
    conv => whnf
    refine DrawCall_v (ds := [c.d, w.d, intsD ((thickL c).map Span.lo)]) (rWorst c w) rfl rfl ?_
    conv => whnf
    refine DrawCall_v (ds := [c.d, i64 out, (worstT c (thickL c) w).d]) (fn37 c (worstT c (thickL c) w) out hR hF ho (by simp [worstT, thickL]) (worst_bd hR w)) rfl rfl ?_
    rw [hjd]
    conv => whnf
    by_cases h : (judgeW c (thickL c) out w).1 = 0
    · rw [if_neg (by simp [h])] at he
      rw [decide_eq_true h]
      conv => whnf
      repeat' (first
        | (refine arith_in (wrap_i64 (by (try dsimp only); omega)) ?_; conv => whnf)
        | (refine elemK_nat (by assumption) ?_; conv => whnf)
        | (refine ownK_whole (by first | rfl | assumption | (simp [Els.len]; done) | (simp [Els.len]; omega)) ?_; conv => whnf)
        | (refine chk_i (by first | (exact decide_eq_true (by (try simp only [List.length_map]); omega)) | (simp [Els.len, Els.cons, V.cells, Els.toV, injL]; done) | (simp [Els.len, Els.cons, V.cells, Els.toV, injL]; omega)) ?_; conv => whnf)
        | fail)
      exact ⟨(), he, (Wk.sub ⟨rfl, rfl, rfl, rfl, rfl, rfl, rfl, trivial⟩ ⟨rfl, trivial⟩)⟩
    · rw [if_pos h] at he
      rw [decide_eq_false h, he]
      conv => whnf
      exact RetA_view 0 rfl ⟨⟨rfl, rfl⟩, rfl⟩
  · intro _ he
    have he : breakF c (thickL c) out = (0, 0, 0) := he
    rw [he]
    conv => whnf
    refine brk_i (fun h => absurd h (by simp)) (fun _ => ?_)
    conv => whnf
    exact RetA_view 0 rfl ⟨⟨rfl, rfl⟩, rfl⟩

theorem rWhy (c : Case) (out : Int) : FnV Tryz.prog 8 [c.d, i64 out] (.tup [i64 (whyE c out).1.1, i64 (whyE c out).1.2.1, i64 (whyE c out).1.2.2, i64 (whyE c out).2]) := by
  refine fnV_of mixed tysOk Tryz.func8 rfl (ft := ft8) 2 (by decide +kernel) (by rfl) fun {σ} Y st => ?_
  conv => whnf
  refine DrawCall_v (ds := [c.d, i64 (-2), i64 out]) (rVeer c (-2) out) rfl rfl ?_
  rw [ask_none]
  conv => whnf
  refine DrawCall_v (ds := [c.d, i64 (goE c out false)]) (rSound c (goE c out false) fun h => (goE_zero h).1) rfl rfl ?_
  unfold whyE
  by_cases h : lookE c (goE c out false) = 0
  · obtain ⟨hR, _, ho1, ho2, ho3⟩ := goE_zero (lookE_zero h).1
    rw [h]
    simp only [if_true]
    conv => whnf
    refine CallA_v (ds := [c.d, i64 out]) (rFirst c out hR (by omega)) rfl rfl ?_
    conv => whnf
    exact RetA_view 0 rfl ⟨⟨rfl, rfl⟩, rfl⟩
  · simp only [if_neg h]
    generalize lookE c (goE c out false) = e at *
    conv => whnf
    rw [decide_eq_false h]
    conv => whnf
    exact RetA_view 0 rfl ⟨⟨rfl, rfl⟩, rfl⟩

theorem rShow (c : Case) (i out : Int) : FnV Tryz.prog 10 [c.d, i64 i, i64 out] (.tup [(showE c i out).1, i64 (showE c i out).2.1.1, i64 (showE c i out).2.1.2, i64 (showE c i out).2.2]) := by
  refine fnV_of mixed tysOk Tryz.func10 rfl (ft := ft10) 3 (by decide +kernel) (by rfl) fun {σ} Y st => ?_
  conv => whnf
  repeat' (first
    | (refine CallA_v (rSome i) rfl rfl ?_; conv => whnf)
    | (refine CallA_view (rSome i) rfl 1 rfl ?_; conv => whnf)
    | (refine DrawCall_v (rSome i) rfl rfl ?_; conv => whnf)
    | (refine DrawCall_view (rSome i) rfl 1 rfl ?_; conv => whnf)
    | (refine CallA_v (rVeer c (max (-1) i) out) rfl rfl ?_; conv => whnf)
    | (refine CallA_view (rVeer c (max (-1) i) out) rfl 1 rfl ?_; conv => whnf)
    | (refine DrawCall_v (rVeer c (max (-1) i) out) rfl rfl ?_; conv => whnf)
    | (refine DrawCall_view (rVeer c (max (-1) i) out) rfl 1 rfl ?_; conv => whnf)
    | (refine arith_in (wrap_i64 (by (try dsimp only); omega)) ?_; conv => whnf)
    | (refine elemK_nat (by assumption) ?_; conv => whnf)
    | (refine ownK_whole (by first | rfl | assumption | (simp [Els.len]; done) | (simp [Els.len]; omega)) ?_; conv => whnf)
    | (refine chk_i (by first | (exact decide_eq_true (by (try simp only [List.length_map]); omega)) | (simp [Els.len, Els.cons, V.cells, Els.toV, injL]; done) | (simp [Els.len, Els.cons, V.cells, Els.toV, injL]; omega)) ?_; conv => whnf)
    | fail)
  rw [ask_some]
  refine DrawCall_v (ds := [c.d, i64 (goE c out (badAt c i))]) (rSound c (goE c out (badAt c i)) fun h => (goE_zero h).1) rfl rfl ?_
  unfold showE
  by_cases h : lookE c (goE c out (badAt c i)) = 0
  · obtain ⟨hR, hb, ho1, ho2, ho3⟩ := goE_zero (lookE_zero h).1
    obtain ⟨w, hi, hw, hm⟩ := badAt_ok hb
    have hF := worst_ok (moor_ok hR) hm
    have hjd : judgeF c (worstT c (thickL c) w) out = judgeW c (thickL c) out w := rfl
    rw [h]
    simp only [if_true, hw]
    conv => whnf
    refine elemK_i w.cells ⟨hi, by rw [List.getElem?_map, hw]; rfl⟩ ?_
    conv => whnf
    refine DrawCall_v (ds := [c.d]) (rThin c hR) rfl rfl ?_
    conv => whnf
    refine DrawCall_v (ds := [c.d, w.d, intsD ((thickL c).map Span.lo)]) (rWorst c w) rfl rfl ?_
    conv => whnf
    refine CallA_v (ds := [c.d, i64 out, (worstT c (thickL c) w).d]) (fn37 c (worstT c (thickL c) w) out hR hF (by omega) (by simp [worstT, thickL]) (worst_bd hR w)) rfl rfl ?_
    rw [hjd]
    conv => whnf
    exact RetA_view 0 rfl ⟨⟨rfl, rfl⟩, rfl⟩
  · simp only [if_neg h]
    generalize lookE c (goE c out (badAt c i)) = e at *
    conv => whnf
    rw [decide_eq_false h]
    conv => whnf
    exact RetA_view 0 rfl ⟨⟨rfl, rfl⟩, rfl⟩

theorem rIn (c : Case) (i out : Int) (t : Truth) : FnV Tryz.prog 13 [c.d, i64 i, i64 out, t.d] (.tup [i64 (inE c i out t).1.1, i64 (inE c i out t).1.2, i64 (inE c i out t).2]) := by
  refine fnV_of mixed tysOk Tryz.func13 rfl (ft := ft13) 4 (by decide +kernel) (by rfl) fun {σ} Y st => ?_
  conv => whnf
  repeat' (first
    | (refine CallA_v (rSome i) rfl rfl ?_; conv => whnf)
    | (refine CallA_view (rSome i) rfl 1 rfl ?_; conv => whnf)
    | (refine DrawCall_v (rSome i) rfl rfl ?_; conv => whnf)
    | (refine DrawCall_view (rSome i) rfl 1 rfl ?_; conv => whnf)
    | (refine CallA_v (rVeer c (max (-1) i) out) rfl rfl ?_; conv => whnf)
    | (refine CallA_view (rVeer c (max (-1) i) out) rfl 1 rfl ?_; conv => whnf)
    | (refine DrawCall_v (rVeer c (max (-1) i) out) rfl rfl ?_; conv => whnf)
    | (refine DrawCall_view (rVeer c (max (-1) i) out) rfl 1 rfl ?_; conv => whnf)
    | (refine arith_in (wrap_i64 (by (try dsimp only); omega)) ?_; conv => whnf)
    | (refine elemK_nat (by assumption) ?_; conv => whnf)
    | (refine ownK_whole (by first | rfl | assumption | (simp [Els.len]; done) | (simp [Els.len]; omega)) ?_; conv => whnf)
    | (refine chk_i (by first | (exact decide_eq_true (by (try simp only [List.length_map]); omega)) | (simp [Els.len, Els.cons, V.cells, Els.toV, injL]; done) | (simp [Els.len, Els.cons, V.cells, Els.toV, injL]; omega)) ?_; conv => whnf)
    | fail)
  rw [ask_some]
  refine DrawCall_v (ds := [c.d, i64 (goE c out (badAt c i))]) (rSound c (goE c out (badAt c i)) fun h => (goE_zero h).1) rfl rfl ?_
  unfold inE
  by_cases h : lookE c (goE c out (badAt c i)) = 0
  · obtain ⟨hR, hb, ho1, ho2, ho3⟩ := goE_zero (lookE_zero h).1
    obtain ⟨w, hi, hw, hm⟩ := badAt_ok hb
    rw [h]
    simp only [if_true, hw]
    conv => whnf
    refine elemK_i w.cells ⟨hi, by rw [List.getElem?_map, hw]; rfl⟩ ?_
    conv => whnf
    refine DrawCall_v (ds := [c.d, w.d, t.d]) (fn36 c w t hR) rfl rfl ?_
    unfold truthE
    by_cases hl : t.thick.length = c.chain.shots.length
    · simp only [if_pos hl]
      cases hb2 : outL (bandsL c w) (valsL t) with
      | true =>
        simp only [if_true]
        conv => whnf
        exact RetA_view 0 rfl ⟨⟨rfl, rfl⟩, rfl⟩
      | false =>
        simp only [Bool.false_eq_true, if_false]
        obtain ⟨hF, hbd⟩ := bands_ok hR hm hl hb2
        conv => whnf
        refine CallA_v (ds := [c.d, i64 out, t.d]) (fn37 c t out hR hF (by omega) hl hbd) rfl rfl ?_
        conv => whnf
        exact RetA_view 0 rfl ⟨⟨rfl, rfl⟩, rfl⟩
    · simp only [if_neg hl]
      conv => whnf
      exact RetA_view 0 rfl ⟨⟨rfl, rfl⟩, rfl⟩
  · simp only [if_neg h]
    generalize lookE c (goE c out (badAt c i)) = e at *
    conv => whnf
    rw [decide_eq_false h]
    conv => whnf
    rw [decide_eq_false h]
    conv => whnf
    exact RetA_view 0 rfl ⟨⟨rfl, rfl⟩, rfl⟩
end Go.PX

namespace Go.PX
open Go.Proofs

theorem sameT_self (t : Truth) : sameT t t = true := by simp [sameT]

def mooredD (i out : Int) (t : Truth) : D := .agg (i64 i :: i64 out :: t.cells)
def zeroT : Truth := ⟨0, 0, 0, 0, 0, []⟩

theorem law3 (c : Case) (i out : Int) (t : Truth) : FnV Tryz.prog 3 [c.d, mooredD i out t] (.bool true) := by
  refine fnV_of mixed tysOk Tryz.func3 rfl (ft := ft3) 2 (by decide +kernel) (by rfl) fun {σ} Y st => ?_
  conv => whnf
  refine CallA_v (ds := [c.d, i64 i, i64 out]) (fn24 c i out) rfl rfl ?_
  conv => whnf
  refine CallA_v (ds := [c.d, i64 i, i64 out]) (rPull c i out) rfl rfl ?_
  generalize pullE c i out = p
  conv => whnf
  rw [self_t]
  conv => whnf
  rw [self_t]
  conv => whnf
  refine CallA_v (ds := [c.d, i64 out]) (fn25 c out) rfl rfl ?_
  conv => whnf
  refine CallA_v (ds := [c.d, i64 out]) (rWhy c out) rfl rfl ?_
  generalize whyE c out = y
  conv => whnf
  rw [self_t]
  conv => whnf
  rw [self_t]
  conv => whnf
  rw [self_t]
  conv => whnf
  rw [self_t]
  conv => whnf
  refine CallA_v (ds := [c.d, i64 i, i64 out]) (fn35 c i out) rfl rfl ?_
  have hs : (∃ u : Truth, (showE c i out).1 = u.d ∧ u.thick.length < 1000000) ∨ (showE c i out).1 = noTruth := by
    unfold showE
    split
    · rename_i h
      obtain ⟨hR, _⟩ := goE_zero (lookE_zero h).1
      split
      · rename_i w _
        have := hR.lens
        exact .inl ⟨worstT c (thickL c) w, rfl, by simp [worstT, thickL]; omega⟩
      · exact .inr rfl
    · exact .inr rfl
  have hsh := rShow c i out (σ := σ)
  obtain ⟨r, hr⟩ : ∃ r, showE c i out = r := ⟨_, rfl⟩
  rw [hr] at hs ⊢
  rcases hs with ⟨u, hu, hul⟩ | hu
  · rw [hu]
    conv => whnf
    refine CallA_v (ds := [c.d, i64 i, i64 out]) (rShow c i out) rfl rfl ?_
    rw [hr, hu]
    conv => whnf
    refine CallA_v (ds := [u.d, u.d]) (fn71 u u hul) rfl rfl ?_
    rw [sameT_self]
    conv => whnf
    rw [self_t]
    conv => whnf
    rw [self_t]
    conv => whnf
    rw [self_t]
    conv => whnf
    refine CallA_v (ds := [c.d, i64 i, i64 out, t.d]) (fn39 c i out t) rfl rfl ?_
    conv => whnf
    refine CallA_v (ds := [c.d, i64 i, i64 out, t.d]) (rIn c i out t) rfl rfl ?_
    generalize inE c i out t = q
    conv => whnf
    rw [self_t]
    conv => whnf
    rw [self_t]
    conv => whnf
    rw [self_t]
    conv => whnf
    refine CallA_v (fn22) rfl rfl ?_
    conv => whnf
    exact RetA_view 0 rfl ⟨⟨rfl, rfl⟩, rfl⟩
  · rw [hu]
    conv => whnf
    refine CallA_v (ds := [c.d, i64 i, i64 out]) (rShow c i out) rfl rfl ?_
    rw [hr, hu]
    conv => whnf
    refine CallA_rep (args' := [.d zeroT.d, .d zeroT.d]) ?_ ?_
    · intro yv L F w l h
      obtain ⟨x, l', rfl, h1, y, l'', rfl, h2, h3⟩ := h
      exact ⟨x, _, rfl, RepD.relax _ x h1, y, _, rfl, RepD.relax _ y h2, h3⟩
    refine CallA_v (ds := [zeroT.d, zeroT.d]) (fn71 zeroT zeroT (by simp [zeroT])) rfl rfl ?_
    rw [sameT_self]
    conv => whnf
    rw [self_t]
    conv => whnf
    rw [self_t]
    conv => whnf
    rw [self_t]
    conv => whnf
    refine CallA_v (ds := [c.d, i64 i, i64 out, t.d]) (fn39 c i out t) rfl rfl ?_
    conv => whnf
    refine CallA_v (ds := [c.d, i64 i, i64 out, t.d]) (rIn c i out t) rfl rfl ?_
    generalize inE c i out t = q
    conv => whnf
    rw [self_t]
    conv => whnf
    rw [self_t]
    conv => whnf
    rw [self_t]
    conv => whnf
    refine CallA_v (fn22) rfl rfl ?_
    conv => whnf
    exact RetA_view 0 rfl ⟨⟨rfl, rfl⟩, rfl⟩
end Go.PX

namespace Go.PX
open Go.Proofs

def boolsD (l : List Bool) : D := .vs (l.map fun b => [.bool b])
def heldL (c : Case) : List Bool := (List.range (linksF c.chain.shots).toNat).map fun (k : Nat) => heldB c (thickL c) ((k : Int) + 1)

theorem held_all (c : Case) (th : List Span) (out : Int) : heldB c th out = c.weathers.all fun w => decide ((judgeW c th out w).1 = 0) := by
  unfold heldB breakF
  rw [Bool.eq_iff_iff, decide_eq_true_eq, break_zero, List.all_eq_true]
  simp only [decide_eq_true_eq]

theorem rHeld (c : Case) (hR : CaseR c) : FnV Tryz.prog 49 [c.d] (boolsD (heldL c)) := by
  refine fnV_of mixed tysOk Tryz.func49 rfl (ft := ft49) 1 (by decide +kernel) (by rfl) fun {σ} Y st => ?_
  conv => whnf
  have hlen := hR.lens
  have hwl := hR.wlen
  have hlk := links_ok hR
  refine CallA_v (ds := [c.d]) (rThin c hR) rfl rfl ?_
  conv => whnf
  refine LoopA_i (T := tys) tysOk (by exact drawsB_spec mixed tysOk (by decide +kernel)) c.weathers (fun i (g : List (List D) × Nat) => ⟨[(1, .ptr 1 0), (3, .d (intsD ((thickL c).map Span.lo))), (4, .sl 31 6 0 g.2), (5, .d (i64 i))], [(1, .box (.dd c.cells)), (31, .arr 6 (.dd g.1))], st⟩)
    (fun i r g => g.1 = (c.weathers.take i).map (fun w => (worstT c (thickL c) w).cells) ∧ i = g.2) ([], 0) ((Wk.born 4 31 6 rfl rfl rfl).trans (Wk.sub ⟨rfl, rfl, rfl, rfl, trivial⟩ ⟨rfl, rfl, trivial⟩)) ⟨rfl, rfl⟩ ?_ ?_
  · rintro i w r ⟨es, k⟩ hw hi hr ⟨h1, h2⟩
    replace h1 : es = _ := h1
    replace h2 : i = k := h2
    subst h2
    have hel : es.length = i := by rw [h1]; simp; omega
    conv => whnf
    refine brk_i (fun _ => ?_) (fun h => absurd hi (by simpa using h))
    conv => whnf
    refine elemK_nat hw ?_
    conv => whnf
    refine DrawCall_v (ds := [c.d, w.d, intsD ((thickL c).map Span.lo)]) (rWorst c w) rfl rfl ?_
    conv => whnf
    repeat' (first
      | (refine arith_in (wrap_i64 (by (try dsimp only); omega)) ?_; conv => whnf)
      | (refine elemK_nat (by assumption) ?_; conv => whnf)
      | (refine ownK_whole (by first | rfl | assumption | (simp [Els.len]; done) | (simp [Els.len]; omega)) ?_; conv => whnf)
      | (refine chk_i (by first | (exact decide_eq_true (by (try simp only [List.length_map]); omega)) | (simp [Els.len, Els.cons, V.cells, Els.toV, injL]; done) | (simp [Els.len, Els.cons, V.cells, Els.toV, injL]; omega)) ?_; conv => whnf)
      | fail)
    refine ⟨(_, _), ⟨?_, ?_⟩, (Wk.sub ⟨rfl, rfl, rfl, rfl, trivial⟩ ⟨rfl, rfl, trivial⟩)⟩
    · rw [h1]
      simp only [List.take_succ, List.map_append]
      simp [hw]
      try rfl
    · simp [Els.len]; omega
  · rintro ⟨es, k⟩ ⟨h1, h2⟩
    replace h1 : es = _ := h1
    replace h2 : _ = k := h2
    rw [List.take_of_length_le (by simp)] at h1
    subst h2
    have hwe : ∀ (j : Nat) (w : Weather), c.weathers[j]? = some w → es[j]? = some (worstT c (thickL c) w).cells := fun j w hw => by rw [h1, List.getElem?_map, hw]; rfl
    have hel0 : es.length = c.weathers.length := by rw [h1]; simp
    clear h1
    conv => whnf
    refine brk_i (fun h => absurd h (by simp)) (fun _ => ?_)
    conv => whnf
    refine LoopA_i (T := tys) tysOk (by exact drawsB_spec mixed tysOk (by decide +kernel)) (List.range (linksF c.chain.shots).toNat) (fun i (g : List (List D) × Nat) => ⟨[(1, .ptr 1 0), (4, .sl 31 6 0 c.weathers.length), (6, .sl 63 1 0 g.2), (7, .d (i64 ((i : Int) + 1)))],
        [(1, .box (.dd c.cells)), (31, .arr 6 (.dd es)), (63, .arr 1 (.dd g.1))], st⟩)
      (fun i r g => g.1 = ((List.range i).map fun (k : Nat) => heldB c (thickL c) ((k : Int) + 1)).map (fun b => [D.bool b]) ∧ i = g.2) ([], 0) ((Wk.born 6 63 1 rfl rfl rfl).trans (Wk.sub ⟨rfl, rfl, rfl, rfl, trivial⟩ ⟨rfl, rfl, rfl, trivial⟩)) ⟨rfl, rfl⟩ ?_ ?_
    · rintro i x r ⟨eb, k⟩ hx hi hr ⟨h1, h2⟩
      replace h1 : eb = _ := h1
      replace h2 : i = k := h2
      subst h2
      have hel : eb.length = i := by rw [h1]; simp
      rw [List.length_range] at hi
      conv => whnf
      refine CallA_v (ds := [c.chain.d]) (fn34 c.chain (by omega) (links_bd hR)) rfl rfl ?_
      conv => whnf
      rw [decide_eq_true (show (i : Int) + 1 ≤ linksF c.chain.shots by omega)]
      conv => whnf
      have hall := held_all c (thickL c) ((i : Int) + 1)
      refine LoopA_i (T := tys) tysOk (by exact drawsB_spec mixed tysOk (by decide +kernel)) c.weathers (fun j (b : Bool) => ⟨[(1, .ptr 1 0), (4, .sl 31 6 0 c.weathers.length), (6, .sl 63 1 0 i), (7, .d (i64 ((i : Int) + 1))), (8, .d (.bool b)), (9, .d (i64 j))],
          [(1, .box (.dd c.cells)), (31, .arr 6 (.dd es)), (63, .arr 1 (.dd eb))], st⟩)
        (fun j r b => b = (c.weathers.take j).all fun w => decide ((judgeW c (thickL c) ((i : Int) + 1) w).1 = 0)) true (Wk.sub ⟨rfl, rfl, rfl, rfl, rfl, rfl, trivial⟩ ⟨rfl, rfl, rfl, trivial⟩) rfl ?_ ?_
      · intro j w r' b hw hj hr' hb
        have hm := List.mem_of_getElem? hw
        have hF := worst_ok (moor_ok hR) hm
        have hjd : judgeF c (worstT c (thickL c) w) ((i : Int) + 1) = judgeW c (thickL c) ((i : Int) + 1) w := rfl
        conv => whnf
        refine brk_i (fun _ => ?_) (fun h => absurd hj (by simpa using h))
        conv => whnf
        cases b with
        | false =>
          have hbv : heldB c (thickL c) ((i : Int) + 1) = false := by
            rw [hall]
            rw [← List.take_append_drop j c.weathers, List.all_append, ← hb]; rfl
          conv => whnf
          repeat' (first
            | (refine arith_in (wrap_i64 (by (try dsimp only); omega)) ?_; conv => whnf)
            | (refine elemK_nat (by assumption) ?_; conv => whnf)
            | (refine ownK_whole (by first | rfl | assumption | (simp [Els.len]; done) | (simp [Els.len]; omega)) ?_; conv => whnf)
            | (refine chk_i (by first | (exact decide_eq_true (by (try simp only [List.length_map]); omega)) | (simp [Els.len, Els.cons, V.cells, Els.toV, injL]; done) | (simp [Els.len, Els.cons, V.cells, Els.toV, injL]; omega)) ?_; conv => whnf)
            | fail)
          refine ⟨(_, _), ⟨?_, ?_⟩, (Wk.sub ⟨rfl, rfl, rfl, rfl, trivial⟩ ⟨rfl, rfl, rfl, trivial⟩)⟩
          · rw [h1, List.range_succ, List.map_append, List.map_append]
            simp [hbv]
          · simp [Els.len, hel]
        | true =>
          conv => whnf
          repeat' (first
            | (refine arith_in (wrap_i64 (by (try dsimp only); omega)) ?_; conv => whnf)
            | (refine elemK_nat (by assumption) ?_; conv => whnf)
            | (refine ownK_whole (by first | rfl | assumption | (simp [Els.len]; done) | (simp [Els.len]; omega)) ?_; conv => whnf)
            | (refine chk_i (by first | (exact decide_eq_true (by (try simp only [List.length_map]); omega)) | (simp [Els.len, Els.cons, V.cells, Els.toV, injL]; done) | (simp [Els.len, Els.cons, V.cells, Els.toV, injL]; omega)) ?_; conv => whnf)
            | fail)
          refine cellK_i (worstT c (thickL c) w).cells (by simpa using hwe j w hw) ?_
          conv => whnf
          refine DrawCall_v (ds := [c.d, i64 ((i : Int) + 1), (worstT c (thickL c) w).d]) (fn37 c (worstT c (thickL c) w) ((i : Int) + 1) hR hF (by omega) (by simp [worstT, thickL]) (worst_bd hR w)) rfl rfl ?_
          rw [hjd]
          conv => whnf
          repeat' (first
            | (refine arith_in (wrap_i64 (by (try dsimp only); omega)) ?_; conv => whnf)
            | (refine elemK_nat (by assumption) ?_; conv => whnf)
            | (refine ownK_whole (by first | rfl | assumption | (simp [Els.len]; done) | (simp [Els.len]; omega)) ?_; conv => whnf)
            | (refine chk_i (by first | (exact decide_eq_true (by (try simp only [List.length_map]); omega)) | (simp [Els.len, Els.cons, V.cells, Els.toV, injL]; done) | (simp [Els.len, Els.cons, V.cells, Els.toV, injL]; omega)) ?_; conv => whnf)
            | fail)
          refine ⟨_, ?_, (Wk.sub ⟨rfl, rfl, rfl, rfl, rfl, rfl, trivial⟩ ⟨rfl, rfl, rfl, trivial⟩)⟩
          rw [List.take_succ, hw, List.all_append, ← hb]
          simp
      · intro b hb
        rw [List.take_length, ← hall] at hb
        have hbv : heldB c (thickL c) ((i : Int) + 1) = b := hb.symm
        conv => whnf
        refine brk_i (fun h => absurd h (by simp)) (fun _ => ?_)
        conv => whnf
        repeat' (first
          | (refine arith_in (wrap_i64 (by (try dsimp only); omega)) ?_; conv => whnf)
          | (refine elemK_nat (by assumption) ?_; conv => whnf)
          | (refine ownK_whole (by first | rfl | assumption | (simp [Els.len]; done) | (simp [Els.len]; omega)) ?_; conv => whnf)
          | (refine chk_i (by first | (exact decide_eq_true (by (try simp only [List.length_map]); omega)) | (simp [Els.len, Els.cons, V.cells, Els.toV, injL]; done) | (simp [Els.len, Els.cons, V.cells, Els.toV, injL]; omega)) ?_; conv => whnf)
          | fail)
        refine ⟨(_, _), ⟨?_, ?_⟩, (Wk.sub ⟨rfl, rfl, rfl, rfl, trivial⟩ ⟨rfl, rfl, rfl, trivial⟩)⟩
        · rw [h1, List.range_succ, List.map_append, List.map_append]
          simp [hbv]
        · simp [Els.len, hel]
    · rintro ⟨eb, k⟩ ⟨h1, h2⟩
      replace h1 : eb = _ := h1
      replace h2 : _ = k := h2
      rw [List.length_range] at h1 h2
      subst h2
      conv => whnf
      refine CallA_v (ds := [c.chain.d]) (fn34 c.chain (by omega) (links_bd hR)) rfl rfl ?_
      conv => whnf
      rw [decide_eq_false (show ¬ (((List.range (linksF c.chain.shots).toNat).length : Nat) : Int) + 1 ≤ linksF c.chain.shots by rw [List.length_range]; omega)]
      conv => whnf
      exact RetA_sl rfl (by rw [h1]; simp) ⟨⟨by rw [h1]; rfl, rfl⟩, rfl⟩
end Go.PX

namespace Go.PX
open Go.Proofs

theorem held_get {c : Case} {i : Nat} (hi : i < (linksF c.chain.shots).toNat) : (heldL c)[i]? = some (heldB c (thickL c) ((i : Int) + 1)) := by
  simp [heldL, hi]

theorem held_any {c : Case} (hR : CaseR c) : (heldL c).any id = !(allRuns c (thickL c)).isEmpty := by
  rw [Bool.eq_iff_iff, List.any_eq_true]
  have hl := links_ok hR
  constructor
  · rintro ⟨b, hb, hbt⟩
    obtain ⟨k, hk, rfl⟩ := List.mem_map.1 hb
    have hk' := List.mem_range.1 hk
    have hc := (allRuns_cov hR (thickL c) ((k : Int) + 1)).2 ⟨by omega, by omega, by simpa [heldB] using hbt⟩
    obtain ⟨s, hs, _⟩ := hc
    cases hr : allRuns c (thickL c) with
    | nil => rw [hr] at hs; cases hs
    | cons a r => rfl
  · intro h
    cases hr : allRuns c (thickL c) with
    | nil => rw [hr] at h; cases h
    | cons s r =>
      have ha := allRuns_asc c (thickL c)
      rw [hr] at ha
      have hc := (allRuns_cov hR (thickL c) s.lo).1 ⟨s, by rw [hr]; simp, Int.le_refl _, ha.2.1⟩
      refine ⟨heldB c (thickL c) s.lo, List.mem_map.2 ⟨(s.lo - 1).toNat, List.mem_range.2 (by omega), ?_⟩, by simpa [heldB] using hc.2.2⟩
      rw [show (((s.lo - 1).toNat : Nat) : Int) + 1 = s.lo by omega]

theorem rDoes (c : Case) (hR : CaseR c) : FnV Tryz.prog 54 [c.d] (.bool (!(allRuns c (thickL c)).isEmpty)) := by
  rw [← held_any hR]
  refine fnV_of mixed tysOk Tryz.func54 rfl (ft := ft54) 1 (by decide +kernel) (by rfl) fun {σ} Y st => ?_
  conv => whnf
  have hlk := links_ok hR
  have hhl : (heldL c).length = (linksF c.chain.shots).toNat := by simp [heldL]
  refine CallA_v (ds := [c.d]) (rHeld c hR) rfl rfl ?_
  generalize heldL c = l at *
  conv => whnf
  refine LoopA_i (T := tys) tysOk (by exact drawsB_spec mixed tysOk (by decide +kernel)) l (fun i (_ : Unit) => ⟨[(1, .ptr 1 0), (2, .d (.bool false)), (3, .d (boolsD l)), (4, .d (i64 i))], [(1, .box (.dd c.cells))], st⟩)
    (fun i r _ => l.any id = r.any id) () (Wk.sub ⟨rfl, rfl, rfl, rfl, trivial⟩ ⟨rfl, trivial⟩) rfl ?_ ?_
  · intro i b r _ hx hi hr he
    conv => whnf
    refine brk_i (fun _ => ?_) (fun h => absurd hi (by simpa using h))
    conv => whnf
    refine elemK_nat hx ?_
    conv => whnf
    cases b with
    | true =>
      conv => whnf
      rw [he]
      exact RetA_view 0 rfl ⟨⟨rfl, rfl⟩, rfl⟩
    | false =>
      conv => whnf
      repeat' (first
        | (refine arith_in (wrap_i64 (by (try dsimp only); omega)) ?_; conv => whnf)
        | (refine elemK_nat (by assumption) ?_; conv => whnf)
        | (refine ownK_whole (by first | rfl | assumption | (simp [Els.len]; done) | (simp [Els.len]; omega)) ?_; conv => whnf)
        | (refine chk_i (by first | (exact decide_eq_true (by (try simp only [List.length_map]); omega)) | (simp [Els.len, Els.cons, V.cells, Els.toV, injL]; done) | (simp [Els.len, Els.cons, V.cells, Els.toV, injL]; omega)) ?_; conv => whnf)
        | fail)
      exact ⟨(), by rw [he]; rfl, (Wk.sub ⟨rfl, rfl, rfl, rfl, trivial⟩ ⟨rfl, trivial⟩)⟩
  · intro _ he
    conv => whnf
    refine brk_i (fun h => absurd h (by simp)) (fun _ => ?_)
    conv => whnf
    rw [he]
    exact RetA_view 0 rfl ⟨⟨rfl, rfl⟩, rfl⟩

def spansC (l : List Span) : List (List D) := l.map Span.cells

set_option maxHeartbeats 4000000 in
theorem rScopes (c : Case) : FnV Tryz.prog 16 [c.d] (.tup [spansD (scopesE c).1, i64 (scopesE c).2]) := by
  by_cases he : soundAll c = 0
  · obtain ⟨hR, hS⟩ := scopesE_all he
    have h' : lookE c (checkC c).2.2 = 0 := he
    have h0 := (lookE_zero h').1
    rw [hS]
    refine FnV.relax (r := match allRuns c (thickL c) with | [] => .tup [.nils, i64 9] | s :: r => .tup [spansD (s :: r), i64 0]) ?_ (by
      cases allRuns c (thickL c) with
      | nil => rfl
      | cons s r =>
        show D.tup [D.vs (relaxE ((s :: r).map Span.cells)), _] = _
        rw [relaxE_map Span.cells Span.cells fun x => rfl]; rfl)
    rw [runs_ref hR]
    refine fnV_of mixed tysOk Tryz.func16 rfl (ft := ft16) 1 (by decide +kernel) (by rfl) fun {σ} Y st => ?_
    conv => whnf
    have hlk := links_ok hR
    refine CallA_v (ds := [c.d]) (fn14 c) rfl rfl ?_
    conv => whnf
    refine CallA_v (ds := [c.d, i64 (checkC c).2.2]) (rSound c (checkC c).2.2 fun h => case_ok h) rfl rfl ?_
    rw [h']
    conv => whnf
    refine CallA_v (ds := [c.d]) (rHeld c hR) rfl rfl ?_
    conv => whnf
    have hhl : (heldL c).length = (linksF c.chain.shots).toNat := by simp [heldL]
    have hhg : ∀ (i : Nat), i < (linksF c.chain.shots).toNat → (heldL c)[i]? = some (heldB c (thickL c) ((i : Int) + 1)) := fun i hi => held_get hi
    generalize heldL c = l at *
    refine LoopA_i (T := tys) tysOk (by exact drawsB_spec mixed tysOk (by decide +kernel)) l (fun i (g : List (List D) × Nat) => ⟨[(1, .ptr 1 0), (7, .d (boolsD l)), (8, .sl 900000 2 0 g.2), (9, .d (i64 i)), (6, .d (i64 0))], [(1, .box (.dd c.cells)), (900000, .arr 2 (.dd g.1))], st⟩)
      (fun i r g => g.1 = (refRuns (heldB c (thickL c)) i).map Span.cells ∧ g.2 = (refRuns (heldB c (thickL c)) i).length) ([], 0) ((Wk.born 8 900000 2 rfl rfl rfl).trans (Wk.sub ⟨rfl, rfl, rfl, rfl, rfl, trivial⟩ ⟨rfl, rfl, trivial⟩)) ⟨rfl, rfl⟩ ?_ ?_
    · rintro i b r ⟨es, k⟩ hx hi hr ⟨h1, h2⟩
      replace h1 : es = _ := h1
      replace h2 : k = _ := h2
      have hb : heldB c (thickL c) ((i : Int) + 1) = b := by
        have := hhg i (by omega)
        rw [hx] at this
        exact (Option.some.inj this).symm
      have hok := refRuns_ok (heldB c (thickL c)) i
      have hle : (refRuns (heldB c (thickL c)) i).length ≤ 280 := by
        have ha := hok.1.len (N := (i : Int)) fun s hs => by
          obtain ⟨j, hj⟩ := List.mem_iff_getElem?.1 hs
          have h2 := hok.1.get hj
          exact ((hok.2.1 s.hi).1 ⟨s, hs, h2.2, Int.le_refl _⟩).2.1
        rcases ha with ha | ha
        · rw [ha]; simp
        · omega
      have hrs : refRuns (heldB c (thickL c)) (i + 1) = refStep (heldB c (thickL c)) (refRuns (heldB c (thickL c)) i) i := rfl
      unfold refStep at hrs
      rw [hb] at hrs
      rw [hrs]
      conv => whnf
      refine brk_i (fun _ => ?_) (fun h => absurd hi (by simpa using h))
      conv => whnf
      refine elemK_nat hx ?_
      conv => whnf
      cases b with
      | false =>
        have hst : (if false = true then (if (i = 0 || !heldB c (thickL c) i) = true then refRuns (heldB c (thickL c)) i ++ [⟨(i : Int) + 1, (i : Int) + 1⟩] else (refRuns (heldB c (thickL c)) i).dropLast ++ [⟨((refRuns (heldB c (thickL c)) i).getLast?.getD ⟨0, 0⟩).lo, (i : Int) + 1⟩]) else refRuns (heldB c (thickL c)) i) = refRuns (heldB c (thickL c)) i := rfl
        rw [hst]
        conv => whnf
        repeat' (first
          | (refine arith_in (wrap_i64 (by (try dsimp only); omega)) ?_; conv => whnf)
          | (refine elemK_nat (by assumption) ?_; conv => whnf)
          | (refine ownK_whole (by first | rfl | assumption | (simp [Els.len]; done) | (simp [Els.len]; omega)) ?_; conv => whnf)
          | (refine chk_i (by first | (exact decide_eq_true (by (try simp only [List.length_map]); omega)) | (simp [Els.len, Els.cons, V.cells, Els.toV, injL]; done) | (simp [Els.len, Els.cons, V.cells, Els.toV, injL]; omega)) ?_; conv => whnf)
          | fail)
        exact ⟨(_, _), ⟨h1, h2⟩, (Wk.sub ⟨rfl, rfl, rfl, rfl, rfl, trivial⟩ ⟨rfl, rfl, trivial⟩)⟩
      | true =>
        simp only [if_true]
        by_cases hi0 : i = 0
        · have hst : (if (i = 0 || !heldB c (thickL c) i) = true then refRuns (heldB c (thickL c)) i ++ [⟨(i : Int) + 1, (i : Int) + 1⟩] else (refRuns (heldB c (thickL c)) i).dropLast ++ [⟨((refRuns (heldB c (thickL c)) i).getLast?.getD ⟨0, 0⟩).lo, (i : Int) + 1⟩]) = refRuns (heldB c (thickL c)) i ++ [⟨(i : Int) + 1, (i : Int) + 1⟩] := by rw [if_pos (by simp [hi0])]
          subst h1 h2
          generalize refRuns (heldB c (thickL c)) i = o at *
          conv => whnf
          rw [decide_eq_true (show (i : Int) = 0 by omega)]
          conv => whnf
          repeat' (first
            | (refine arith_in (wrap_i64 (by (try dsimp only); omega)) ?_; conv => whnf)
            | (refine elemK_nat (by assumption) ?_; conv => whnf)
            | (refine ownK_whole (by first | rfl | assumption | (simp [Els.len]; done) | (simp [Els.len]; omega)) ?_; conv => whnf)
            | (refine chk_i (by first | (exact decide_eq_true (by (try simp only [List.length_map]); omega)) | (simp [Els.len, Els.cons, V.cells, Els.toV, injL]; done) | (simp [Els.len, Els.cons, V.cells, Els.toV, injL]; omega)) ?_; conv => whnf)
            | fail)
          refine ⟨(_, _), ⟨?_, ?_⟩, (Wk.move 53 900000 rfl rfl).trans (Wk.sub ⟨rfl, rfl, rfl, rfl, rfl, trivial⟩ ⟨rfl, rfl, trivial⟩)⟩
          · rw [hst]
            simp [Span.cells]
          · rw [hst]
            simp [Els.len]
        · obtain ⟨pv, hpx⟩ : ∃ pv, l[i - 1]? = some pv := ⟨_, List.getElem?_eq_getElem (by omega)⟩
          have hp : heldB c (thickL c) i = pv := by
            have := hhg (i - 1) (by omega)
            rw [hpx, show ((i - 1 : Nat) : Int) + 1 = i by omega] at this
            exact (Option.some.inj this).symm
          conv => whnf
          rw [decide_eq_false (show ¬ (i : Int) = 0 by omega)]
          conv => whnf
          refine arith_to (((i - 1 : Nat) : Int)) (by (try dsimp only); omega) (wrap_i64 (by (try dsimp only); omega)) ?_
          conv => whnf
          refine elemK_nat hpx ?_
          conv => whnf
          cases pv with
          | false =>
            have hst : (if (i = 0 || !heldB c (thickL c) i) = true then refRuns (heldB c (thickL c)) i ++ [⟨(i : Int) + 1, (i : Int) + 1⟩] else (refRuns (heldB c (thickL c)) i).dropLast ++ [⟨((refRuns (heldB c (thickL c)) i).getLast?.getD ⟨0, 0⟩).lo, (i : Int) + 1⟩]) = refRuns (heldB c (thickL c)) i ++ [⟨(i : Int) + 1, (i : Int) + 1⟩] := by rw [if_pos (by simp [hp])]
            subst h1 h2
            generalize refRuns (heldB c (thickL c)) i = o at *
            conv => whnf
            repeat' (first
              | (refine arith_in (wrap_i64 (by (try dsimp only); omega)) ?_; conv => whnf)
              | (refine elemK_nat (by assumption) ?_; conv => whnf)
              | (refine ownK_whole (by first | rfl | assumption | (simp [Els.len]; done) | (simp [Els.len]; omega)) ?_; conv => whnf)
              | (refine chk_i (by first | (exact decide_eq_true (by (try simp only [List.length_map]); omega)) | (simp [Els.len, Els.cons, V.cells, Els.toV, injL]; done) | (simp [Els.len, Els.cons, V.cells, Els.toV, injL]; omega)) ?_; conv => whnf)
              | fail)
            refine ⟨(_, _), ⟨?_, ?_⟩, (Wk.move 53 900000 rfl rfl).trans (Wk.sub ⟨rfl, rfl, rfl, rfl, rfl, trivial⟩ ⟨rfl, rfl, trivial⟩)⟩
            · rw [hst]
              simp [Span.cells]
            · rw [hst]
              simp [Els.len]
          | true =>
            obtain ⟨o, s, ho, hsi⟩ := hok.2.2 hi0 hp
            have hst : (if (i = 0 || !heldB c (thickL c) i) = true then refRuns (heldB c (thickL c)) i ++ [⟨(i : Int) + 1, (i : Int) + 1⟩] else (refRuns (heldB c (thickL c)) i).dropLast ++ [⟨((refRuns (heldB c (thickL c)) i).getLast?.getD ⟨0, 0⟩).lo, (i : Int) + 1⟩]) = o ++ [⟨s.lo, (i : Int) + 1⟩] := by
              rw [if_neg (by simp [hi0, hp]), ho, List.dropLast_concat, List.getLast?_concat, Option.getD_some]
            rw [hst]
            rw [ho] at h1 h2 hle
            have hel : es.length = o.length + 1 := by rw [h1]; simp
            have hk : k = o.length + 1 := by rw [h2]; simp
            have hes : es[o.length]? = some s.cells := by rw [h1]; simp
            have het : es.take o.length = o.map Span.cells := by rw [h1]; simp
            have hol : o.length + 1 ≤ 280 := by simpa using hle
            clear h1 h2
            subst hk
            conv => whnf
            refine elemK_nat hx ?_
            conv => whnf
            refine arith_to (((o.length : Nat) : Int)) (by (try dsimp only); omega) (wrap_i64 (by (try dsimp only); omega)) ?_
            conv => whnf
            refine chk_i (by simp; omega) ?_
            conv => whnf
            refine arith_to (((o.length : Nat) : Int)) (by (try dsimp only); omega) (wrap_i64 (by (try dsimp only); omega)) ?_
            conv => whnf
            refine chk_i (by simp; omega) ?_
            conv => whnf
            refine cellK_i s.cells (by simpa using hes) ?_
            conv => whnf
            repeat' (first
              | (refine arith_in (wrap_i64 (by (try dsimp only); omega)) ?_; conv => whnf)
              | (refine elemK_nat (by assumption) ?_; conv => whnf)
              | (refine ownK_whole (by first | rfl | assumption | (simp [Els.len]; done) | (simp [Els.len]; omega)) ?_; conv => whnf)
              | (refine chk_i (by first | (exact decide_eq_true (by (try simp only [List.length_map]); omega)) | (simp [Els.len, Els.cons, V.cells, Els.toV, injL]; done) | (simp [Els.len, Els.cons, V.cells, Els.toV, injL]; omega)) ?_; conv => whnf)
              | fail)
            refine ownK.mk (by simp [Els.len]; omega) ?_
            conv => whnf
            refine chk_i (decide_eq_true (by simp [Els.len, Els.part, Els.cons]; omega)) ?_
            conv => whnf
            repeat' (first
              | (refine arith_in (wrap_i64 (by (try dsimp only); omega)) ?_; conv => whnf)
              | (refine elemK_nat (by assumption) ?_; conv => whnf)
              | (refine ownK_whole (by first | rfl | assumption | (simp [Els.len]; done) | (simp [Els.len]; omega)) ?_; conv => whnf)
              | (refine chk_i (by first | (exact decide_eq_true (by (try simp only [List.length_map]); omega)) | (simp [Els.len, Els.cons, V.cells, Els.toV, injL]; done) | (simp [Els.len, Els.cons, V.cells, Els.toV, injL]; omega)) ?_; conv => whnf)
              | fail)
            refine ⟨(_, _), ⟨?_, ?_⟩, (Wk.move 74 900000 rfl rfl).trans (Wk.sub ⟨rfl, rfl, rfl, rfl, rfl, trivial⟩ ⟨rfl, rfl, trivial⟩)⟩
            · simp [het, Span.cells]
            · simp [Els.len, Els.part]; omega
    · rintro ⟨es, k⟩ ⟨h1, h2⟩
      replace h1 : es = _ := h1
      replace h2 : k = _ := h2
      rw [hhl] at h1 h2 ⊢
      generalize refRuns (heldB c (thickL c)) (linksF c.chain.shots).toNat = o at *
      subst h1 h2
      conv => whnf
      rw [List.length_map, hhl, decide_eq_false (by omega)]
      conv => whnf
      cases o with
      | nil =>
        rw [decide_eq_true (by rfl)]
        conv => whnf
        exact RetA_view 0 rfl ⟨⟨rfl, rfl⟩, rfl⟩
      | cons s r =>
        rw [decide_eq_false (by simp; omega)]
        conv => whnf
        exact RetA_view 1 (ds := [spansD (s :: r), i64 0]) (viewL_cons (viewV_sl rfl (by simp)) rfl) ⟨⟨rfl, rfl⟩, rfl⟩
  · have e2 : scopesE c = ([], soundAll c) := by unfold scopesE; rw [if_neg (show ¬ lookE c (checkC c).2.2 = 0 from he)]; rfl
    rw [e2]
    refine FnV.relax (r := .tup [.nils, i64 (soundAll c)]) ?_ rfl
    refine fnV_of mixed tysOk Tryz.func16 rfl (ft := ft16) 1 (by decide +kernel) (by rfl) fun {σ} Y st => ?_
    conv => whnf
    refine CallA_v (ds := [c.d]) (fn14 c) rfl rfl ?_
    conv => whnf
    refine CallA_v (ds := [c.d, i64 (checkC c).2.2]) (rSound c (checkC c).2.2 fun h => case_ok h) rfl rfl ?_
    rw [show lookE c (checkC c).2.2 = soundAll c from rfl]
    conv => whnf
    rw [decide_eq_false he]
    conv => whnf
    exact RetA_view 0 rfl ⟨⟨rfl, rfl⟩, rfl⟩
end Go.PX

namespace Go.PX
open Go.Proofs

theorem rShort (c : Case) : FnV Tryz.prog 19 [c.d] (.tup [i64 (shortE c).1, i64 (shortE c).2]) := by
  refine fnV_of mixed tysOk Tryz.func19 rfl (ft := ft19) 1 (by decide +kernel) (by rfl) fun {σ} Y st => ?_
  conv => whnf
  refine CallA_v (ds := [c.d]) (rScopes c) rfl rfl ?_
  by_cases he : soundAll c = 0
  · rw [shortE_all he, (scopesE_all he).2]
    cases allRuns c (thickL c) with
    | nil =>
      conv => whnf
      exact RetA_view 0 rfl ⟨⟨rfl, rfl⟩, rfl⟩
    | cons s r =>
      conv => whnf
      exact RetA_view 0 rfl ⟨⟨rfl, rfl⟩, rfl⟩
  · have e1 : shortE c = (0, soundAll c) := by unfold shortE; rw [if_neg (show ¬ lookE c (checkC c).2.2 = 0 from he)]; rfl
    have e2 : scopesE c = ([], soundAll c) := by unfold scopesE; rw [if_neg (show ¬ lookE c (checkC c).2.2 = 0 from he)]; rfl
    rw [e1, e2]
    conv => whnf
    rw [decide_eq_false he]
    conv => whnf
    exact RetA_view 0 rfl ⟨⟨rfl, rfl⟩, rfl⟩

theorem ok_ref {c : Case} (h : soundAll c = 0) {w : List Int} (hw : ∀ i ∈ w, 0 ≤ i ∧ i < c.chain.shots.length) (rev : Bool) : (!(allRuns (refC c w rev) (thickL (refC c w rev))).isEmpty) = okRun c (thickL c) w rev := by
  obtain ⟨h0, hs⟩ := lookE_zero (show lookE c (checkC c).2.2 = 0 from h)
  have hR := case_ok h0
  have e : allRuns (refC c w rev) (thickL (refC c w rev)) = allRuns (turnC c rev) (turnT (renewT c (thickL c) w) rev) := by
    rw [runs_links (ref_same c w rev)]
    unfold refC
    rw [thick_turn, thick_renew hR hs hw]
  rw [e]
  rfl

theorem ref_ok {c : Case} (h : soundAll c = 0) (w : List Int) (rev : Bool) : CaseR (refC c w rev) :=
  case_ok (lookE_zero (show lookE (refC c w rev) (checkC (refC c w rev)).2.2 = 0 from ref_all h w rev)).1

/-- The first list that is wanted, of those of so many numbers and more. -/
def fromL (w : List Int → Bool) (many n : Nat) : Option (List Int) := (List.range' n (many + 1 - n)).findSome? fun (k : Nat) => (listsF many k [] 0).find? w

theorem fromL_step (w : List Int → Bool) {many n : Nat} (h : n ≤ many) : fromL w many n = ((listsF many n [] 0).find? w).or (fromL w many (n + 1)) := by
  unfold fromL
  rw [show many + 1 - n = (many + 1 - (n + 1)) + 1 by omega, List.range'_succ, List.findSome?_cons]
  cases (listsF many n [] 0).find? w <;> rfl

set_option maxHeartbeats 4000000 in
theorem rRenew (c : Case) : FnV Tryz.prog 21 [c.d] (.tup [intsD (renewE c).1.1, .bool (renewE c).1.2, i64 (renewE c).2]) := by
  by_cases he : soundAll c = 0
  · have h' : lookE c (checkC c).2.2 = 0 := he
    have h0 := (lookE_zero h').1
    have hR := case_ok h0
    rw [renew_find he]
    refine FnV.relax (r := match firstL (fun q => (renewW c (thickL c) q).2) c.chain.shots.length with
      | some q => .tup [intsD q, .bool (renewW c (thickL c) q).1, i64 0]
      | none => .tup [.nils, .bool false, i64 9]) ?_ (by
        cases firstL (fun q => (renewW c (thickL c) q).2) c.chain.shots.length with
        | none => rfl
        | some q =>
          show D.tup [D.vs (relaxE (q.map fun n => [i64 n])), _, _] = _
          rw [relaxE_map (fun n => [i64 n]) (fun n => [i64 n]) fun x => rfl]; rfl)
    refine fnV_of mixed tysOk Tryz.func21 rfl (ft := ft21) 1 (by decide +kernel) (by rfl) fun {σ} Y st => ?_
    conv => whnf
    have hfl : firstL (fun q => (renewW c (thickL c) q).2) c.chain.shots.length = fromL (fun q => (renewW c (thickL c) q).2) c.chain.shots.length 0 := rfl
    rw [hfl]
    have hlen := hR.lens
    refine CallA_v (ds := [c.d]) (fn14 c) rfl rfl ?_
    conv => whnf
    refine CallA_v (ds := [c.d, i64 (checkC c).2.2]) (rSound c (checkC c).2.2 fun h => case_ok h) rfl rfl ?_
    rw [h']
    conv => whnf
    obtain ⟨W, hW⟩ : ∃ W : List Int → Bool, W = fun q => (renewW c (thickL c) q).2 := ⟨_, rfl⟩
    rw [← hW] at hfl ⊢
    rw [List.length_map]
    refine LoopA_i (T := tys) tysOk (by exact drawsB_spec mixed tysOk (by decide +kernel)) (List.range (c.chain.shots.length + 1)) (fun n (_ : Unit) => ⟨[(1, .ptr 1 0), (2, .d .nils), (3, .d (.bool false)), (4, .d (i64 0)), (8, .d (i64 c.chain.shots.length)), (9, .d (i64 n))], [(1, .box (.dd c.cells))], st⟩)
      (fun n r _ => fromL W c.chain.shots.length 0 = fromL W c.chain.shots.length n) () (Wk.sub ⟨rfl, rfl, rfl, rfl, rfl, rfl, trivial⟩ ⟨rfl, trivial⟩) rfl ?_ ?_
    · intro n x r _ hx hn hr hJ
      rw [List.length_range] at hn
      rw [fromL_step W (show n ≤ c.chain.shots.length by omega)] at hJ
      have hLl := listsF_len c.chain.shots.length (by omega) n [] 0
      have h8 : 8 ^ n ≤ 8 ^ 7 := Nat.pow_le_pow_right (by omega) (by omega)
      have hLm : ∀ q ∈ listsF c.chain.shots.length n [] 0, q.length = n ∧ AscB c.chain.shots.length 0 q := fun q hq => by
        obtain ⟨r, hr, hl, ha⟩ := lists_mem.1 hq
        rw [List.nil_append] at hr
        subst hr
        exact ⟨hl, ha⟩
      conv => whnf
      refine brk_i (fun _ => ?_) (fun h => absurd h (by simp; omega))
      conv => whnf
      refine CallA_rep (args' := [.d (intsD []), .d (i64 n), .d (i64 c.chain.shots.length)]) ?_ ?_
      · intro yv L F w l h
        obtain ⟨x, l', rfl, h1, h2⟩ := h
        exact ⟨x, _, rfl, RepD.relax .nils x h1, h2⟩
      refine CallA_v (ds := [intsD [], i64 n, i64 c.chain.shots.length]) (fn65 c.chain.shots.length (by omega) n [] 0 (by omega) (by simp; omega) (by omega) (.inl ⟨rfl, rfl⟩)) rfl rfl ?_
      generalize listsF c.chain.shots.length n [] 0 = L at *
      conv => whnf
      refine LoopA_i (T := tys) tysOk (by exact drawsB_spec mixed tysOk (by decide +kernel)) L (fun i (_ : Unit) => ⟨[(1, .ptr 1 0), (2, .d .nils), (3, .d (.bool false)), (4, .d (i64 0)), (8, .d (i64 c.chain.shots.length)), (9, .d (i64 n)), (10, .d (listsD L)), (11, .d (i64 i))], [(1, .box (.dd c.cells))], st⟩)
        (fun i r _ => fromL W c.chain.shots.length 0 = (r.find? W).or (fromL W c.chain.shots.length (n + 1))) () (Wk.sub ⟨rfl, rfl, rfl, rfl, rfl, rfl, rfl, rfl, trivial⟩ ⟨rfl, trivial⟩) hJ ?_ ?_
      · intro i q r' _ hq hi hr' hJ'
        obtain ⟨ql, qa⟩ := hLm q (List.mem_of_getElem? hq)
        have hqm : ∀ i ∈ q, 0 ≤ i ∧ i < (c.chain.shots.length : Int) := fun i hi => qa.mem i hi
        have hWq : W q = (renewW c (thickL c) q).2 := by rw [hW]
        rw [renewW_eq] at hWq
        have hre := renewW_eq c (thickL c) q
        conv => whnf
        refine brk_i (fun _ => ?_) (fun h => absurd hi (by simpa using h))
        conv => whnf
        refine elemK_nat hq ?_
        conv => whnf
        refine DrawCall_v (ds := [c.d, intsD q, .bool false]) (fn42 c q false (by omega) (by omega)) rfl rfl ?_
        conv => whnf
        refine DrawCall_v (ds := [(refC c q false).d]) (rDoes (refC c q false) (ref_ok he q false)) rfl rfl ?_
        rw [ok_ref he hqm]
        cases hk : okRun c (thickL c) q false with
        | true =>
          rw [hk, if_pos rfl] at hWq hre
          rw [List.find?_cons_of_pos hWq] at hJ'
          conv => whnf
          refine elemK_nat hq ?_
          conv => whnf
          rw [hJ', Option.some_or]
          simp only
          rw [hre]
          exact RetA_view 0 rfl ⟨⟨rfl, rfl⟩, rfl⟩
        | false =>
          rw [hk, if_neg (by simp)] at hWq hre
          conv => whnf
          refine elemK_nat hq ?_
          conv => whnf
          refine DrawCall_v (ds := [c.d, intsD q, .bool true]) (fn42 c q true (by omega) (by omega)) rfl rfl ?_
          conv => whnf
          refine DrawCall_v (ds := [(refC c q true).d]) (rDoes (refC c q true) (ref_ok he q true)) rfl rfl ?_
          rw [ok_ref he hqm]
          cases hk2 : okRun c (thickL c) q true with
          | true =>
            rw [hk2, if_pos rfl] at hWq hre
            rw [List.find?_cons_of_pos hWq] at hJ'
            conv => whnf
            refine elemK_nat hq ?_
            conv => whnf
            rw [hJ', Option.some_or]
            simp only
            rw [hre]
            exact RetA_view 0 rfl ⟨⟨rfl, rfl⟩, rfl⟩
          | false =>
            rw [hk2, if_neg (by simp)] at hWq
            rw [List.find?_cons_of_neg (by simp [hWq])] at hJ'
            conv => whnf
            repeat' (first
              | (refine arith_in (wrap_i64 (by (try dsimp only); omega)) ?_; conv => whnf)
              | (refine elemK_nat (by assumption) ?_; conv => whnf)
              | (refine ownK_whole (by first | rfl | assumption | (simp [Els.len]; done) | (simp [Els.len]; omega)) ?_; conv => whnf)
              | (refine chk_i (by first | (exact decide_eq_true (by (try simp only [List.length_map]); omega)) | (simp [Els.len, Els.cons, V.cells, Els.toV, injL]; done) | (simp [Els.len, Els.cons, V.cells, Els.toV, injL]; omega)) ?_; conv => whnf)
              | fail)
            exact ⟨(), hJ', (Wk.sub ⟨rfl, rfl, rfl, rfl, rfl, rfl, rfl, rfl, trivial⟩ ⟨rfl, trivial⟩)⟩
      · intro _ hJ'
        conv => whnf
        refine brk_i (fun h => absurd h (by simp)) (fun _ => ?_)
        conv => whnf
        repeat' (first
          | (refine arith_in (wrap_i64 (by (try dsimp only); omega)) ?_; conv => whnf)
          | (refine elemK_nat (by assumption) ?_; conv => whnf)
          | (refine ownK_whole (by first | rfl | assumption | (simp [Els.len]; done) | (simp [Els.len]; omega)) ?_; conv => whnf)
          | (refine chk_i (by first | (exact decide_eq_true (by (try simp only [List.length_map]); omega)) | (simp [Els.len, Els.cons, V.cells, Els.toV, injL]; done) | (simp [Els.len, Els.cons, V.cells, Els.toV, injL]; omega)) ?_; conv => whnf)
          | fail)
        exact ⟨(), hJ', (Wk.sub ⟨rfl, rfl, rfl, rfl, rfl, rfl, trivial⟩ ⟨rfl, trivial⟩)⟩
    · intro _ hJ
      rw [List.length_range] at hJ ⊢
      have hn : fromL W c.chain.shots.length (c.chain.shots.length + 1) = none := by
        unfold fromL
        rw [Nat.sub_self]; rfl
      rw [hJ, hn]
      conv => whnf
      refine brk_i (fun h => absurd h (by simp; omega)) (fun _ => ?_)
      conv => whnf
      exact RetA_view 0 rfl ⟨⟨rfl, rfl⟩, rfl⟩
  · rw [renew_err he]
    refine FnV.relax (r := .tup [.nils, .bool false, i64 (soundAll c)]) ?_ rfl
    refine fnV_of mixed tysOk Tryz.func21 rfl (ft := ft21) 1 (by decide +kernel) (by rfl) fun {σ} Y st => ?_
    conv => whnf
    refine CallA_v (ds := [c.d]) (fn14 c) rfl rfl ?_
    conv => whnf
    refine CallA_v (ds := [c.d, i64 (checkC c).2.2]) (rSound c (checkC c).2.2 fun h => case_ok h) rfl rfl ?_
    rw [show lookE c (checkC c).2.2 = soundAll c from rfl]
    conv => whnf
    rw [decide_eq_false he]
    conv => whnf
    exact RetA_view 0 rfl ⟨⟨rfl, rfl⟩, rfl⟩

theorem law4 (c : Case) : FnV Tryz.prog 4 [c.d] (.bool true) := by
  refine fnV_of mixed tysOk Tryz.func4 rfl (ft := ft4) 1 (by decide +kernel) (by rfl) fun {σ} Y st => ?_
  conv => whnf
  refine CallA_v (ds := [c.d]) (fn41 c) rfl rfl ?_
  conv => whnf
  refine CallA_v (ds := [c.d]) (rScopes c) rfl rfl ?_
  conv => whnf
  have hsl : (scopesE c).1.length < 1000000 := by
    by_cases he : soundAll c = 0
    · obtain ⟨hR, hs⟩ := scopesE_all he
      rw [hs]
      have ha := (allRuns_asc c (thickL c)).len (N := linksF c.chain.shots) fun s hs => by
        obtain ⟨i, hi⟩ := List.mem_iff_getElem?.1 hs
        have h2 := (allRuns_asc c (thickL c)).get hi
        exact ((allRuns_cov hR (thickL c) s.hi).1 ⟨s, hs, h2.2, Int.le_refl _⟩).2.1
      have hlk := links_ok hR
      cases hr : allRuns c (thickL c) with
      | nil => simp
      | cons s r =>
        rw [hr] at ha
        rcases ha with h | h
        · cases h
        · show (s :: r).length < 1000000
          omega
    · have e2 : scopesE c = ([], soundAll c) := by unfold scopesE; rw [if_neg (show ¬ lookE c (checkC c).2.2 = 0 from he)]; rfl
      rw [e2]; simp
  have hrl : (renewE c).1.1.length < 1000000 := by
    by_cases he : soundAll c = 0
    · have hR := case_ok (lookE_zero (show lookE c (checkC c).2.2 = 0 from he)).1
      have := hR.lens
      have := (back_len he).2.2
      omega
    · rw [renew_err he]; simp
  refine CallA_v (ds := [spansD (scopesE c).1, spansD (scopesE c).1]) (fn45 (scopesE c).1 (scopesE c).1 hsl) rfl rfl ?_
  rw [show decide ((scopesE c).1 = (scopesE c).1) = true from decide_eq_true rfl]
  conv => whnf
  rw [self_t]
  conv => whnf
  refine CallA_v (ds := [c.d]) (fn40 c) rfl rfl ?_
  conv => whnf
  refine CallA_v (ds := [c.d]) (rShort c) rfl rfl ?_
  conv => whnf
  rw [self_t]
  conv => whnf
  rw [self_t]
  conv => whnf
  refine CallA_v (ds := [c.d]) (fn27 c) rfl rfl ?_
  conv => whnf
  refine CallA_v (ds := [c.d]) (rRenew c) rfl rfl ?_
  conv => whnf
  refine CallA_v (ds := [intsD (renewE c).1.1, intsD (renewE c).1.1]) (fn19 (renewE c).1.1 (renewE c).1.1 hrl) rfl rfl ?_
  rw [show decide ((renewE c).1.1 = (renewE c).1.1) = true from decide_eq_true rfl]
  conv => whnf
  rw [show ((renewE c).1.2 == (renewE c).1.2) = true from beq_self_eq_true _]
  conv => whnf
  rw [self_t]
  conv => whnf
  refine CallA_v (fn22) rfl rfl ?_
  conv => whnf
  exact RetA_view 0 rfl ⟨⟨rfl, rfl⟩, rfl⟩
end Go.PX
