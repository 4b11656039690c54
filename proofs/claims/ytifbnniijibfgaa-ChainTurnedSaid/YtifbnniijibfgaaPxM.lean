import Derived.Test.YtifbnniijibfgaaPxL
import Derived.Test.YtifbnniijibfgaaPxH
set_option linter.all false
set_option maxRecDepth 10000
namespace Go.PX
open Go.Proofs

theorem Asc.get {l : List Span} : ∀ {b : Int} {i : Nat} {x : Span}, Asc b l → l[i]? = some x → b ≤ x.lo ∧ x.lo ≤ x.hi := by
  induction l with
  | nil => intro b i x h hx; simp at hx
  | cons s r ih =>
    intro b i x ⟨h1, h2, h3⟩ hx
    cases i with
    | zero => simp at hx; subst hx; exact ⟨h1, h2⟩
    | succ i =>
      have := ih h3 (by simpa using hx)
      exact ⟨by omega, this.2⟩

theorem Asc.gap {l : List Span} : ∀ {b : Int} {i : Nat} {x y : Span}, Asc b l → l[i]? = some y → l[i + 1]? = some x → y.hi + 2 ≤ x.lo := by
  induction l with
  | nil => intro b i x y h hy; simp at hy
  | cons s r ih =>
    intro b i x y ⟨h1, h2, h3⟩ hy hx
    cases i with
    | zero =>
      simp at hy hx; subst hy
      cases r with
      | nil => simp at hx
      | cons z r => simp at hx; subst hx; exact h3.1
    | succ i => exact ih h3 (by simpa using hy) (by simpa using hx)

theorem cov_app {a : Int} {l : List Span} {x : Span} : Cov a (l ++ [x]) ↔ (Cov a l ∨ (x.lo ≤ a ∧ a ≤ x.hi)) := by
  simp [Cov, or_and_right, exists_or]

theorem Asc.len {N : Int} : ∀ {l : List Span} {b : Int}, Asc b l → (∀ s ∈ l, s.hi ≤ N) → l = [] ∨ b + 2 * (l.length : Int) - 2 ≤ N
  | [], b, _, _ => .inl rfl
  | s :: r, b, ⟨h1, h2, h3⟩, hN => by
    right
    have hs := hN s (by simp)
    rcases Asc.len h3 (fun x hx => hN x (by simp [hx])) with rfl | h
    · simp only [List.length_cons, List.length_nil]; omega
    · simp only [List.length_cons]; omega

theorem scopesE_all {c : Case} (h : soundAll c = 0) : CaseR c ∧ scopesE c = (match allRuns c (thickL c) with | [] => ([], 9) | s :: r => (s :: r, 0)) := by
  have h' : lookE c (checkC c).2.2 = 0 := h
  have hR := case_ok (lookE_zero h').1
  refine ⟨hR, ?_⟩
  have hl := links_ok hR
  have hle : (allRuns c (thickL c)).length ≤ (linksF c.chain.shots).toNat := by
    have := (allRuns_asc c (thickL c)).len (N := linksF c.chain.shots) fun s hs => by
      obtain ⟨i, hi⟩ := List.mem_iff_getElem?.1 hs
      have h2 := (allRuns_asc c (thickL c)).get hi
      exact ((allRuns_cov hR (thickL c) s.hi).1 ⟨s, hs, h2.2, Int.le_refl _⟩).2.1
    rcases this with h | h
    · rw [h]; simp
    · omega
  unfold scopesE
  rw [if_pos h', scopesF_take c _ hl.1, List.take_of_length_le hle]
  cases allRuns c (thickL c) <;> rfl

theorem shortE_all {c : Case} (h : soundAll c = 0) : shortE c = (match allRuns c (thickL c) with | [] => (0, 9) | s :: r => (s.lo, 0)) := by
  have h' : lookE c (checkC c).2.2 = 0 := h
  unfold shortE
  rw [if_pos h', scopesF_take c _ (by omega)]
  cases allRuns c (thickL c) <;> rfl

theorem whyE_in {c : Case} (hR : CaseR c) (he : soundAll c = 0) {out : Int} (ho : 1 ≤ out ∧ out ≤ linksF c.chain.shots) : whyE c out = (breakF c (thickL c) out, 0) := by
  have h' : lookE c (checkC c).2.2 = 0 := he
  obtain ⟨h0, hs⟩ := lookE_zero h'
  have hg : goE c out false = 0 := by
    unfold goE
    rw [if_neg (by simp [h0]), if_neg (by simp), if_pos (inB_iff.2 ho)]
  have : lookE c (goE c out false) = 0 := by rw [hg]; simp [lookE, hs]
  unfold whyE
  rw [if_pos this]

def q2 (p0 p1 : Int) : D := .agg [.int .u16 p0, .int .u16 p1]

theorem fn9 (c : Case) (p0 p1 : Int) (h0 : 0 ≤ p0 ∧ p0 ≤ 65535) (h1 : 0 ≤ p1 ∧ p1 ≤ 65535) : FnV Try.prog 9 [c.d, q2 p0 p1] (.bool true) := by
  refine fnV_of mixed tysOk Try.func9 rfl (ft := ft9) 2 (by decide +kernel) (by rfl) fun {σ} Y st => ?_
  conv => whnf
  refine CallA_v (ds := [c.d]) (fn40 c) rfl rfl ?_
  conv => whnf
  refine CallA_v (ds := [c.d]) (fn41 c) rfl rfl ?_
  conv => whnf
  refine CallA_v (ds := [c.d]) (fn33 c) rfl rfl ?_
  conv => whnf
  by_cases he : soundAll c = 0
  · refine brk_i (fun h => absurd h (by simp [he])) (fun _ => ?_)
    obtain ⟨hR, hS⟩ := scopesE_all he
    conv => whnf
    refine CallA_v (fn34 c.chain (by have := hR.lens; omega) (links_bd hR)) rfl rfl ?_
    conv => whnf
    have hl := links_ok hR
    have ht : 0 ≤ p0.tmod (linksF c.chain.shots) ∧ p0.tmod (linksF c.chain.shots) < linksF c.chain.shots := by
      rw [Int.tmod_eq_emod_of_nonneg h0.1]
      exact ⟨Int.emod_nonneg _ (by omega), Int.emod_lt_of_pos _ (by omega)⟩
    refine arith_in (wrap_i64 (by (try dsimp only); omega)) ?_
    conv => whnf
    refine chk_i (by simp; omega) ?_
    conv => whnf
    refine arith_in (wrap_i64 (by (try dsimp only); omega)) ?_
    conv => whnf
    obtain ⟨a, ha⟩ : ∃ a, a = 1 + p0.tmod (linksF c.chain.shots) := ⟨_, rfl⟩
    rw [← ha]
    have hE := whyE_in hR he (out := a) (by omega)
    refine CallA_v (ds := [c.d, i64 a]) (fn25 c a) rfl rfl ?_
    rw [hE, shortE_all he, hS]
    have hc := allRuns_cov hR (thickL c) a
    obtain ⟨L, hL⟩ : ∃ L, L = allRuns c (thickL c) := ⟨_, rfl⟩
    rw [← hL] at hc hS ⊢
    have hasc : Asc 1 L := by rw [hL]; exact allRuns_asc c (thickL c)
    have hcov : ∀ x, Cov x L ↔ (1 ≤ x ∧ x ≤ linksF c.chain.shots ∧ (breakF c (thickL c) x).1 = 0) := by rw [hL]; exact allRuns_cov hR (thickL c)
    cases L with
    | nil =>
      have hk : (breakF c (thickL c) a).1 ≠ 0 := fun h => by
        obtain ⟨s, hs, _⟩ := (hcov a).2 ⟨by omega, by omega, h⟩
        cases hs
      conv => whnf
      rw [decide_eq_false hk]
      conv => whnf
      refine CallA_v (fn22) rfl rfl ?_
      conv => whnf
      exact RetA_view 0 rfl ⟨⟨rfl, rfl⟩, rfl⟩
    | cons s r =>
      have hN : ∀ z ∈ s :: r, z.hi ≤ linksF c.chain.shots := fun z hz => by
        obtain ⟨n, hn⟩ := List.mem_iff_getElem?.1 hz
        exact ((hcov z.hi).1 ⟨z, hz, (hasc.get hn).2, Int.le_refl _⟩).2.1
      have hlen : (s :: r).length ≤ 280 := by
        rcases hasc.len hN with h | h
        · cases h
        · omega
      conv => whnf
      refine LoopA_i (T := tys) tysOk (by exact drawsB_spec mixed tysOk (by decide +kernel)) (s :: r) (fun i (b : Bool) => ⟨[(2, .ptr 2 0), (3, .ptr 3 0), (5, .d (i64 s.lo)), (7, .d (spansD (s :: r))), (10, .d (i64 (linksF c.chain.shots))), (11, .d (i64 a)), (12, .d (i64 (breakF c (thickL c) a).1)), (16, .d (.bool b)), (17, .d (i64 i))],
          [(2, .box (.dd c.cells)), (3, .box (.dd [.int .u16 p0, .int .u16 p1]))], st⟩)
        (fun i l b => l.length ≤ 280 ∧ i ≤ 280 ∧ (b = true ↔ Cov a ((s :: r).take i))) false
        (Wk.sub ⟨(by first | rfl | (simp only [List.length_map]; rfl) | simp [PX.get]), (by first | rfl | (simp only [List.length_map]; rfl) | simp [PX.get]), (by first | rfl | (simp only [List.length_map]; rfl) | simp [PX.get]), (by first | rfl | (simp only [List.length_map]; rfl) | simp [PX.get]), (by first | rfl | (simp only [List.length_map]; rfl) | simp [PX.get]), (by first | rfl | (simp only [List.length_map]; rfl) | simp [PX.get]), (by first | rfl | (simp only [List.length_map]; rfl) | simp [PX.get]), (by first | rfl | (simp only [List.length_map]; rfl) | simp [PX.get]), (by first | rfl | (simp only [List.length_map]; rfl) | simp [PX.get]), trivial⟩ ⟨(by first | rfl | (simp only [List.length_map]; rfl) | simp [PX.get]), (by first | rfl | (simp only [List.length_map]; rfl) | simp [PX.get]), trivial⟩) ⟨hlen, by omega, by simp [Cov]⟩ ?_ ?_
      · intro i x l b hx hi hr ⟨hl1, hl2, hb⟩
        obtain ⟨x1, x2⟩ := hasc.get hx
        have htk : (s :: r).take (i + 1) = (s :: r).take i ++ [x] := by rw [List.take_succ, hx]; rfl
        conv => whnf
        refine brk_i (fun _ => ?_) (fun h => absurd hi (by simp at h hi ⊢; omega))
        conv => whnf
        refine elemK_nat hx ?_
        conv => whnf
        refine elemK_nat hx ?_
        conv => whnf
        rw [decide_eq_false (show ¬ x.hi < x.lo by omega)]
        conv => whnf
        have hxN := hN x (List.mem_of_getElem? hx)
        rcases Nat.eq_zero_or_pos i with h0i | h0i
        · subst h0i
          have hxs : x = s := by simpa using hx.symm
          subst hxs
          conv => whnf
          cases b with
          | true =>
            conv => whnf
            refine arith_in (wrap_i64 (by (try dsimp only); omega)) ?_
            conv => whnf
            exact ⟨true, ⟨by simp at hl1; omega, by omega, by rw [htk, cov_app]; exact ⟨fun _ => .inl (hb.1 rfl), fun _ => rfl⟩⟩, (Wk.sub ⟨(by first | rfl | (simp only [List.length_map]; rfl) | simp [PX.get]), (by first | rfl | (simp only [List.length_map]; rfl) | simp [PX.get]), (by first | rfl | (simp only [List.length_map]; rfl) | simp [PX.get]), (by first | rfl | (simp only [List.length_map]; rfl) | simp [PX.get]), (by first | rfl | (simp only [List.length_map]; rfl) | simp [PX.get]), (by first | rfl | (simp only [List.length_map]; rfl) | simp [PX.get]), (by first | rfl | (simp only [List.length_map]; rfl) | simp [PX.get]), (by first | rfl | (simp only [List.length_map]; rfl) | simp [PX.get]), (by first | rfl | (simp only [List.length_map]; rfl) | simp [PX.get]), trivial⟩ ⟨(by first | rfl | (simp only [List.length_map]; rfl) | simp [PX.get]), (by first | rfl | (simp only [List.length_map]; rfl) | simp [PX.get]), trivial⟩)⟩
          | false =>
            have hnb : ¬ Cov a ((x :: r).take 0) := fun h => by have := hb.2 h; cases this
            conv => whnf
            by_cases hx1 : x.lo ≤ a
            · rw [decide_eq_true hx1]
              conv => whnf
              refine arith_in (wrap_i64 (by (try dsimp only); omega)) ?_
              conv => whnf
              exact ⟨decide (a ≤ x.hi), ⟨by simp at hl1; omega, by omega, by rw [htk, cov_app]; simp only [hx1, true_and]; exact ⟨fun h => .inr (of_decide_eq_true h), fun h => decide_eq_true (h.resolve_left hnb)⟩⟩, (Wk.sub ⟨(by first | rfl | (simp only [List.length_map]; rfl) | simp [PX.get]), (by first | rfl | (simp only [List.length_map]; rfl) | simp [PX.get]), (by first | rfl | (simp only [List.length_map]; rfl) | simp [PX.get]), (by first | rfl | (simp only [List.length_map]; rfl) | simp [PX.get]), (by first | rfl | (simp only [List.length_map]; rfl) | simp [PX.get]), (by first | rfl | (simp only [List.length_map]; rfl) | simp [PX.get]), (by first | rfl | (simp only [List.length_map]; rfl) | simp [PX.get]), (by first | rfl | (simp only [List.length_map]; rfl) | simp [PX.get]), (by first | rfl | (simp only [List.length_map]; rfl) | simp [PX.get]), trivial⟩ ⟨(by first | rfl | (simp only [List.length_map]; rfl) | simp [PX.get]), (by first | rfl | (simp only [List.length_map]; rfl) | simp [PX.get]), trivial⟩)⟩
            · rw [decide_eq_false hx1]
              conv => whnf
              refine arith_in (wrap_i64 (by (try dsimp only); omega)) ?_
              conv => whnf
              exact ⟨false, ⟨by simp at hl1; omega, by omega, by rw [htk, cov_app]; exact ⟨fun h => absurd h (by simp), fun h => absurd h (by rintro (h | h); exact hnb h; exact hx1 h.1)⟩⟩, (Wk.sub ⟨(by first | rfl | (simp only [List.length_map]; rfl) | simp [PX.get]), (by first | rfl | (simp only [List.length_map]; rfl) | simp [PX.get]), (by first | rfl | (simp only [List.length_map]; rfl) | simp [PX.get]), (by first | rfl | (simp only [List.length_map]; rfl) | simp [PX.get]), (by first | rfl | (simp only [List.length_map]; rfl) | simp [PX.get]), (by first | rfl | (simp only [List.length_map]; rfl) | simp [PX.get]), (by first | rfl | (simp only [List.length_map]; rfl) | simp [PX.get]), (by first | rfl | (simp only [List.length_map]; rfl) | simp [PX.get]), (by first | rfl | (simp only [List.length_map]; rfl) | simp [PX.get]), trivial⟩ ⟨(by first | rfl | (simp only [List.length_map]; rfl) | simp [PX.get]), (by first | rfl | (simp only [List.length_map]; rfl) | simp [PX.get]), trivial⟩)⟩
        · obtain ⟨y, hy⟩ : ∃ y, (s :: r)[i - 1]? = some y := ⟨(s :: r)[i - 1], List.getElem?_eq_getElem (by omega)⟩
          have hg := hasc.gap (i := i - 1) hy (by rw [show i - 1 + 1 = i by omega]; exact hx)
          have hy2 := hasc.get hy
          rw [decide_eq_true (show (0 : Int) < (i : Int) by omega)]
          conv => whnf
          refine elemK_nat hx ?_
          conv => whnf
          refine arith_to (((i - 1 : Nat) : Int)) (by (try dsimp only); omega) (wrap_i64 (by (try dsimp only); omega)) ?_
          conv => whnf
          refine elemK_nat hy ?_
          conv => whnf
          refine arith_in (wrap_i64 (by (try dsimp only); omega)) ?_
          conv => whnf
          refine brk_i (fun h => absurd h (by simp; omega)) (fun _ => ?_)
          conv => whnf
          cases b with
          | true =>
            conv => whnf
            refine arith_in (wrap_i64 (by (try dsimp only); omega)) ?_
            conv => whnf
            exact ⟨true, ⟨by simp at hl1; omega, by simp at hi hlen; omega, by rw [htk, cov_app]; exact ⟨fun _ => .inl (hb.1 rfl), fun _ => rfl⟩⟩, (Wk.sub ⟨(by first | rfl | (simp only [List.length_map]; rfl) | simp [PX.get]), (by first | rfl | (simp only [List.length_map]; rfl) | simp [PX.get]), (by first | rfl | (simp only [List.length_map]; rfl) | simp [PX.get]), (by first | rfl | (simp only [List.length_map]; rfl) | simp [PX.get]), (by first | rfl | (simp only [List.length_map]; rfl) | simp [PX.get]), (by first | rfl | (simp only [List.length_map]; rfl) | simp [PX.get]), (by first | rfl | (simp only [List.length_map]; rfl) | simp [PX.get]), (by first | rfl | (simp only [List.length_map]; rfl) | simp [PX.get]), (by first | rfl | (simp only [List.length_map]; rfl) | simp [PX.get]), trivial⟩ ⟨(by first | rfl | (simp only [List.length_map]; rfl) | simp [PX.get]), (by first | rfl | (simp only [List.length_map]; rfl) | simp [PX.get]), trivial⟩)⟩
          | false =>
            have hnb : ¬ Cov a ((s :: r).take i) := fun h => by have := hb.2 h; cases this
            conv => whnf
            refine elemK_nat hx ?_
            conv => whnf
            by_cases hx1 : x.lo ≤ a
            · rw [decide_eq_true hx1]
              conv => whnf
              refine elemK_nat hx ?_
              conv => whnf
              refine arith_in (wrap_i64 (by (try dsimp only); omega)) ?_
              conv => whnf
              exact ⟨decide (a ≤ x.hi), ⟨by simp at hl1; omega, by simp at hi hlen; omega, by rw [htk, cov_app]; simp only [hx1, true_and]; exact ⟨fun h => .inr (of_decide_eq_true h), fun h => decide_eq_true (h.resolve_left hnb)⟩⟩, (Wk.sub ⟨(by first | rfl | (simp only [List.length_map]; rfl) | simp [PX.get]), (by first | rfl | (simp only [List.length_map]; rfl) | simp [PX.get]), (by first | rfl | (simp only [List.length_map]; rfl) | simp [PX.get]), (by first | rfl | (simp only [List.length_map]; rfl) | simp [PX.get]), (by first | rfl | (simp only [List.length_map]; rfl) | simp [PX.get]), (by first | rfl | (simp only [List.length_map]; rfl) | simp [PX.get]), (by first | rfl | (simp only [List.length_map]; rfl) | simp [PX.get]), (by first | rfl | (simp only [List.length_map]; rfl) | simp [PX.get]), (by first | rfl | (simp only [List.length_map]; rfl) | simp [PX.get]), trivial⟩ ⟨(by first | rfl | (simp only [List.length_map]; rfl) | simp [PX.get]), (by first | rfl | (simp only [List.length_map]; rfl) | simp [PX.get]), trivial⟩)⟩
            · rw [decide_eq_false hx1]
              conv => whnf
              refine arith_in (wrap_i64 (by (try dsimp only); omega)) ?_
              conv => whnf
              exact ⟨false, ⟨by simp at hl1; omega, by simp at hi hlen; omega, by rw [htk, cov_app]; exact ⟨fun h => absurd h (by simp), fun h => absurd h (by rintro (h | h); exact hnb h; exact hx1 h.1)⟩⟩, (Wk.sub ⟨(by first | rfl | (simp only [List.length_map]; rfl) | simp [PX.get]), (by first | rfl | (simp only [List.length_map]; rfl) | simp [PX.get]), (by first | rfl | (simp only [List.length_map]; rfl) | simp [PX.get]), (by first | rfl | (simp only [List.length_map]; rfl) | simp [PX.get]), (by first | rfl | (simp only [List.length_map]; rfl) | simp [PX.get]), (by first | rfl | (simp only [List.length_map]; rfl) | simp [PX.get]), (by first | rfl | (simp only [List.length_map]; rfl) | simp [PX.get]), (by first | rfl | (simp only [List.length_map]; rfl) | simp [PX.get]), (by first | rfl | (simp only [List.length_map]; rfl) | simp [PX.get]), trivial⟩ ⟨(by first | rfl | (simp only [List.length_map]; rfl) | simp [PX.get]), (by first | rfl | (simp only [List.length_map]; rfl) | simp [PX.get]), trivial⟩)⟩
      · intro b ⟨_, _, hb⟩
        rw [List.take_length, hc] at hb
        have hs1 := hasc.1
        have hsN := hN s (by simp)
        have hs2 := hasc.2.1
        have hk : (breakF c (thickL c) s.lo).1 = 0 := ((hcov s.lo).1 ⟨s, by simp, Int.le_refl _, hs2⟩).2.2
        have hbk : b = decide ((breakF c (thickL c) a).1 = 0) := by
          rw [Bool.eq_iff_iff, hb, decide_eq_true_eq]
          constructor
          · exact fun h => h.2.2
          · exact fun h => ⟨by omega, by omega, h⟩
        subst hbk
        conv => whnf
        refine brk_i (fun h => absurd h (by simp)) (fun _ => ?_)
        conv => whnf
        rw [self_t]
        conv => whnf
        rw [decide_eq_false (show ¬ s.lo < 1 by omega)]
        conv => whnf
        rw [decide_eq_false (show ¬ linksF c.chain.shots < s.lo by omega)]
        conv => whnf
        refine brk_i (fun h => absurd h (by simp)) (fun _ => ?_)
        conv => whnf
        refine CallA_v (ds := [c.d, i64 s.lo]) (fn25 c s.lo) rfl rfl ?_
        rw [whyE_in hR he (out := s.lo) (by omega), hk]
        conv => whnf
        refine brk_i (fun h2 => ?_) (fun h2 => ?_)
        · conv => whnf
          refine CallA_v (fn22) rfl rfl ?_
          conv => whnf
          exact RetA_view 0 rfl ⟨⟨rfl, rfl⟩, rfl⟩
        · have h2 : ¬ s.lo = 1 := by simpa using h2
          have ht2 : 0 ≤ p1.tmod (s.lo - 1) ∧ p1.tmod (s.lo - 1) < s.lo - 1 := by
            rw [Int.tmod_eq_emod_of_nonneg h1.1]
            exact ⟨Int.emod_nonneg _ (by omega), Int.emod_lt_of_pos _ (by omega)⟩
          conv => whnf
          refine arith_in (wrap_i64 (by (try dsimp only); omega)) ?_
          conv => whnf
          refine arith_in (wrap_i64 (by (try dsimp only); omega)) ?_
          conv => whnf
          refine chk_i (by simp; omega) ?_
          conv => whnf
          refine arith_in (wrap_i64 (by (try dsimp only); omega)) ?_
          conv => whnf
          have hk2 : (breakF c (thickL c) (1 + p1.tmod (s.lo - 1))).1 ≠ 0 := fun h => by
            obtain ⟨z, hz, hz1, _⟩ := (hcov (1 + p1.tmod (s.lo - 1))).2 ⟨by omega, by omega, h⟩
            rcases List.mem_cons.1 hz with rfl | hz
            · omega
            · obtain ⟨n, hn⟩ := List.mem_iff_getElem?.1 hz
              have := hasc.2.2.get hn
              omega
          refine DrawCall_v (ds := [c.d, i64 (1 + p1.tmod (s.lo - 1))]) (fn25 c (1 + p1.tmod (s.lo - 1))) rfl rfl ?_
          rw [whyE_in hR he (out := 1 + p1.tmod (s.lo - 1)) (by omega)]
          conv => whnf
          rw [decide_eq_false hk2]
          conv => whnf
          refine CallA_v (fn22) rfl rfl ?_
          conv => whnf
          exact RetA_view 0 rfl ⟨⟨rfl, rfl⟩, rfl⟩
  · have e1 : shortE c = (0, soundAll c) := by unfold shortE; rw [if_neg (show ¬ lookE c (checkC c).2.2 = 0 from he)]; rfl
    have e2 : scopesE c = ([], soundAll c) := by unfold scopesE; rw [if_neg (show ¬ lookE c (checkC c).2.2 = 0 from he)]; rfl
    rw [e1, e2]
    refine brk_i (fun _ => ?_) (fun h => absurd h (by simpa using he))
    conv => whnf
    rw [self_t]
    conv => whnf
    rw [self_t]
    conv => whnf
    refine CallA_v (fn22) rfl rfl ?_
    conv => whnf
    exact RetA_view 0 rfl ⟨⟨rfl, rfl⟩, rfl⟩
end Go.PX

namespace Go.PX
open Go.Proofs

theorem upF_mono {a b k : Int} (hk : 1 ≤ k) (ha : 0 ≤ a) (h : a ≤ b) : upF a k ≤ upF b k := by
  unfold upF
  rw [Int.tdiv_eq_ediv_of_nonneg (by omega), Int.tdiv_eq_ediv_of_nonneg (by omega)]
  exact Int.ediv_le_ediv (by omega) (by omega)

theorem upF_nonneg {a k : Int} (hk : 1 ≤ k) (ha : 0 ≤ a) : 0 ≤ upF a k := by
  unfold upF
  rw [Int.tdiv_eq_ediv_of_nonneg (by omega)]
  exact Int.ediv_nonneg (by omega) (by omega)

theorem sq_mono {a b k : Int} (h0 : 0 ≤ a) (h : a ≤ b) (hk : 0 ≤ k) : 0 ≤ a * a * k ∧ a * a * k ≤ b * b * k :=
  ⟨Int.mul_nonneg (Int.mul_nonneg h0 h0) hk, Int.mul_le_mul_of_nonneg_right (Int.mul_le_mul h h h0 (by omega)) hk⟩

theorem strongF_mono {a b : Int} (h0 : 0 ≤ a) (h : a ≤ b) : strongF a ≤ strongF b := by
  unfold strongF
  have h1 : 0 ≤ a * a := Int.mul_nonneg h0 h0
  have h2 : a * a ≤ b * b := Int.mul_le_mul h h h0 (by omega)
  rw [Int.tdiv_eq_ediv_of_nonneg h1, Int.tdiv_eq_ediv_of_nonneg (by omega)]
  exact Int.ediv_le_ediv (by omega) h2

/-- The first truth is no worse than the second. -/
structure Calmer (t t' : Truth) : Prop where
  d : 0 ≤ t.depth ∧ t.depth ≤ t'.depth
  w : 0 ≤ t.wind ∧ t.wind ≤ t'.wind
  c : 0 ≤ t.current ∧ t.current ≤ t'.current
  s : 0 ≤ t.swell ∧ t.swell ≤ t'.swell
  h : 0 ≤ t'.hold ∧ t'.hold ≤ t.hold
  len : t.thick.length = t'.thick.length
  th : ∀ (i : Nat) (a b : Int), t.thick[i]? = some a → t'.thick[i]? = some b → 0 ≤ b ∧ b ≤ a

theorem pull_mono {s : Ship} {t t' : Truth} {out : Int} (hs : 0 ≤ s.wind ∧ 0 ≤ s.current ∧ 0 ≤ s.swell ∧ 0 ≤ s.yaw) (hw : 0 ≤ t.wind ∧ t.wind ≤ t'.wind) (hc : 0 ≤ t.current ∧ t.current ≤ t'.current) (hsw : 0 ≤ t.swell ∧ t.swell ≤ t'.swell) (ho : 0 ≤ out) :
    pullF s t out ≤ pullF s t' out := by
  unfold pullF
  have h1 := sq_mono hw.1 hw.2 hs.1
  have h2 := sq_mono hc.1 hc.2 hs.2.1
  have h3 : 0 ≤ t.swell * s.swell ∧ t.swell * s.swell ≤ t'.swell * s.swell := ⟨Int.mul_nonneg hsw.1 hs.2.2.1, Int.mul_le_mul_of_nonneg_right hsw.2 hs.2.2.1⟩
  have h4 : 0 ≤ s.yaw * out := Int.mul_nonneg hs.2.2.2 ho
  have h5 := upF_nonneg (a := t.wind * t.wind * s.wind + t.current * t.current * s.current) (k := 100) (by omega) (by omega)
  have h6 := upF_mono (a := t.wind * t.wind * s.wind + t.current * t.current * s.current) (b := t'.wind * t'.wind * s.wind + t'.current * t'.current * s.current) (k := 100) (by omega) (by omega) (by omega)
  refine upF_mono (by omega) (Int.mul_nonneg (by omega) (by omega)) (Int.mul_le_mul_of_nonneg_right (by omega) (by omega))

theorem rows_asc : ∀ {l b : List Row} {i : Int}, (firstE rowE b l i).2 = 0 → (∀ x ∈ l, (lastR b).holds < x.holds ∧ 1 ≤ x.holds) ∧ l.Pairwise (fun a b => a.holds < b.holds)
  | [], b, i, _ => ⟨by simp, List.Pairwise.nil⟩
  | x :: r, b, i, h => by
    simp only [firstE] at h
    by_cases h0 : rowE b x = 0
    · rw [if_pos h0] at h
      obtain ⟨h1, h2⟩ := rows_asc h
      unfold rowE at h0
      split at h0
      · rename_i hin
        simp only [Bool.and_eq_true, inB_iff] at hin
        split at h0
        · exact absurd h0 (by decide)
        · rename_i hlt
          have hl : lastR (b ++ [x]) = x := by simp [lastR]
          rw [hl] at h1
          refine ⟨fun y hy => ?_, List.pairwise_cons.2 ⟨fun y hy => (h1 y hy).1, h2⟩⟩
          rcases List.mem_cons.1 hy with rfl | hy
          · omega
          · have := h1 y hy; omega
      · exact absurd h0 (by decide)
    · rw [if_neg h0] at h
      exact absurd h h0

theorem case_rows {c : Case} (h : (checkC c).2.2 = 0) : c.chain.rows.Pairwise (fun a b => a.holds < b.holds) := by
  have h' := chainE_ok h
  unfold chainE at h'
  split at h'
  · simp only at h'
    split at h'
    · split at h'
      · rename_i h1; exact (rows_asc h1).2
      · rename_i h1; exact absurd h' h1
    · rename_i h1; exact absurd h' h1
  · rename_i h1; exact absurd h' h1

theorem back_mono {l : List Row} (hp : l.Pairwise (fun a b => a.holds < b.holds)) (h0 : ∀ r ∈ l, 0 ≤ r.holds) {p q : Row → Bool} (hpq : ∀ r ∈ l, p r = true → q r = true) : ∀ {n : Nat}, n ≤ l.length →
    (((backL l n).find? fun x => p x.2).getD (0, ⟨0, 0⟩)).2.holds ≤ (((backL l n).find? fun x => q x.2).getD (0, ⟨0, 0⟩)).2.holds
  | 0, _ => by simp [backL]
  | n + 1, hn => by
    have hx : l[n]? = some l[n] := List.getElem?_eq_getElem (by omega)
    have hm : l[n] ∈ l := List.getElem_mem ..
    have ih := back_mono hp h0 hpq (n := n) (by omega)
    simp only [backL, List.find?_cons, hx, Option.getD_some]
    cases hq : q l[n] with
    | true =>
      cases hpp : p l[n] with
      | true => simp
      | false =>
        simp only [Option.getD_some]
        cases hf : (backL l n).find? fun x => p x.2 with
        | none => simp only [Option.getD_none]; exact h0 _ hm
        | some y =>
          simp only [Option.getD_some]
          have hy := List.mem_of_find?_eq_some hf
          have : ∀ {k : Nat}, k ≤ n → ∀ z ∈ backL l k, z.2.holds ≤ l[n].holds := by
            intro k
            induction k with
            | zero => intro _ z hz; cases hz
            | succ k ih =>
              intro hk z hz
              simp only [backL, List.mem_cons] at hz
              rcases hz with rfl | hz
              · have hk' : l[k]? = some l[k] := List.getElem?_eq_getElem (by omega)
                simp only [hk', Option.getD_some]
                have := (List.pairwise_iff_getElem.1 hp) k n (by omega) (by omega) (by omega)
                omega
              · exact ih (by omega) z hz
          exact this (Nat.le_refl _) y hy
    | false =>
      have hpp : p l[n] = false := by
        cases h : p l[n] with
        | false => rfl
        | true => rw [hpq _ hm h] at hq; cases hq
      simp only [hpp]
      exact ih

theorem row_mono {c : Case} (hR : CaseR c) (hr : c.chain.rows.Pairwise (fun a b => a.holds < b.holds)) {t t' : Truth} (hd : 0 ≤ t.depth ∧ t.depth ≤ t'.depth) (hs : 0 ≤ t.swell ∧ t.swell ≤ t'.swell) (out : Int) :
    (rowF c t' out).holds ≤ (rowF c t out).holds := by
  unfold rowF
  refine back_mono hr (fun r h => by have := hR.rows r h; omega) (fun r h hp => ?_) (Nat.le_refl _)
  unfold rowOk at hp ⊢
  have hp := of_decide_eq_true hp
  refine decide_eq_true (Int.le_trans ?_ hp)
  have h1 := upF_mono (a := t.swell) (b := t'.swell) (k := 2) (by omega) hs.1 hs.2
  exact Int.mul_le_mul_of_nonneg_left (by omega) (by have := hR.rows r h; omega)

theorem judgeL_mono {heavy pull pull' out : Int} (hp : pull ≤ pull') : ∀ {l : List Shot} {ts ts' : List Int} {n i : Int}, ts.length = ts'.length → (∀ (k : Nat) (a b : Int), ts[k]? = some a → ts'[k]? = some b → 0 ≤ b ∧ b ≤ a) →
    (judgeL heavy pull' out l ts' n i).1 = 0 → judgeL heavy pull out l ts n i = (0, 0)
  | [], _, _, _, _, _, _, _ => rfl
  | s :: r, [], _, _, _, _, _, _ => rfl
  | s :: r, t :: ts, [], _, _, hl, _, _ => by simp at hl
  | s :: r, t :: ts, t' :: ts', n, i, hl, hb, h => by
    simp only [judgeL] at h ⊢
    by_cases h1 : n ≥ out
    · rw [if_pos h1]
    · rw [if_neg h1] at h ⊢
      have h0 := hb 0 t t' rfl rfl
      have hst := strongF_mono h0.1 h0.2
      by_cases h2 : strongF t' < pull' + heavy * min (n + s.links) out
      · rw [if_pos h2] at h; exact absurd h (by simp)
      · rw [if_neg h2] at h
        rw [if_neg (by omega)]
        exact judgeL_mono hp (by simpa using hl) (fun k a b ha hb' => hb (k + 1) a b (by simpa using ha) (by simpa using hb')) h

theorem judge_mono {c : Case} (hR : CaseR c) (hr : c.chain.rows.Pairwise (fun a b => a.holds < b.holds)) {t t' : Truth} (h : Calmer t t') {out : Int} (ho : 0 ≤ out) (hb : (judgeF c t' out).1 = 0) : judgeF c t out = (0, 0) := by
  unfold judgeF at hb ⊢
  obtain ⟨s1, s2, s3, s4⟩ := hR.ship
  have hp := pull_mono (s := c.ship) (t := t) (t' := t') (out := out) ⟨s1.1, s2.1, s3.1, s4.1⟩ h.w h.c h.s ho
  have hh := row_mono hR hr h.d h.s out
  have hn := rowF_ok hR t' out
  have hm : t'.hold * (rowF c t' out).holds ≤ t.hold * (rowF c t out).holds := Int.mul_le_mul h.h.2 hh hn.2.1 (by have := h.h; omega)
  split at hb
  · exact absurd hb (by decide)
  · rename_i h1
    rw [if_neg (by omega)]
    exact judgeL_mono hp h.len h.th hb

theorem break_zero {c : Case} {th : List Span} {out : Int} : ∀ {l : List Weather} {i : Int}, (breakL c th out l i).1 = 0 ↔ ∀ w ∈ l, (judgeW c th out w).1 = 0
  | [], i => by simp [breakL]
  | w :: r, i => by
    simp only [breakL, List.forall_mem_cons]
    by_cases h : (judgeW c th out w).1 = 0
    · rw [if_neg (by simp [h]), break_zero (l := r)]; simp [h]
    · rw [if_pos h]; simp [h]

theorem break_some {c : Case} {th : List Span} {out : Int} : ∀ {l : List Weather} {i : Int}, (breakL c th out l i).1 ≠ 0 →
    ∃ k w, l[k]? = some w ∧ breakL c th out l i = ((judgeW c th out w).1, i + (k : Nat), (judgeW c th out w).2) ∧ (judgeW c th out w).1 ≠ 0 ∧ ∀ (j : Nat) (w' : Weather), j < k → l[j]? = some w' → (judgeW c th out w').1 = 0
  | [], i, h => absurd rfl h
  | w :: r, i, h => by
    simp only [breakL] at h ⊢
    by_cases h1 : (judgeW c th out w).1 = 0
    · rw [if_neg (by simp [h1])] at h ⊢
      obtain ⟨k, w', hk, he, hn, hj⟩ := break_some h
      refine ⟨k + 1, w', by simpa using hk, by rw [he]; simp; omega, hn, fun j w'' hj' hw => ?_⟩
      cases j with
      | zero => simp at hw; subst hw; exact h1
      | succ j => exact hj j w'' (by omega) (by simpa using hw)
    · rw [if_pos h1]
      exact ⟨0, w, rfl, by simp, h1, fun j w' hj => absurd hj (by omega)⟩
end Go.PX

namespace Go.PX
open Go.Proofs

theorem shots_iff : ∀ {l b : List Shot} {i : Int}, (firstE shotE b l i).2 = 0 ↔ (∀ x ∈ l, (nameF x.name = true ∧ checkF x = 0) ∧ ∀ y ∈ b, y.name ≠ x.name) ∧ l.Pairwise (fun a b => a.name ≠ b.name)
  | [], b, i => by simp [firstE]
  | x :: r, b, i => by
    have hx : shotE b x = 0 ↔ ((nameF x.name = true ∧ checkF x = 0) ∧ ∀ y ∈ b, y.name ≠ x.name) := by
      unfold shotE
      by_cases h1 : nameF x.name = true
      · rw [if_pos h1]
        by_cases h2 : (b.any fun y => decide (y.name = x.name)) = true
        · rw [if_pos h2]
          simp only [List.any_eq_true, decide_eq_true_eq] at h2
          obtain ⟨y, hy, he⟩ := h2
          exact ⟨fun h => absurd h (by decide), fun h => absurd he (h.2 y hy)⟩
        · rw [if_neg h2]
          simp only [List.any_eq_true, decide_eq_true_eq, not_exists, not_and] at h2
          exact ⟨fun h => ⟨⟨h1, h⟩, h2⟩, fun h => h.1.2⟩
      · rw [if_neg h1]
        exact ⟨fun h => absurd h (by decide), fun h => absurd h.1.1 h1⟩
    simp only [firstE, List.forall_mem_cons, List.pairwise_cons]
    by_cases h0 : shotE b x = 0
    · rw [if_pos h0, shots_iff (l := r)]
      have hx' := hx.1 h0
      constructor
      · rintro ⟨h1, h2⟩
        exact ⟨⟨hx', fun y hy => ⟨(h1 y hy).1, fun z hz => (h1 y hy).2 z (by simp [hz])⟩⟩, fun y hy => (h1 y hy).2 x (by simp), h2⟩
      · rintro ⟨⟨_, h1⟩, h2, h3⟩
        refine ⟨fun y hy => ⟨(h1 y hy).1, fun z hz => ?_⟩, h3⟩
        rcases List.mem_append.1 hz with hz | hz
        · exact (h1 y hy).2 z hz
        · rw [List.mem_singleton] at hz; subst hz; exact h2 y hy
    · rw [if_neg h0]
      exact ⟨fun h => absurd h h0, fun h => absurd (hx.2 h.1.1) h0⟩

theorem weathers_iff : ∀ {l b : List Weather} {i : Int}, (firstE weatherE b l i).2 = 0 ↔ ∀ x ∈ l, weatherE [] x = 0
  | [], b, i => by simp [firstE]
  | x :: r, b, i => by
    simp only [firstE, List.forall_mem_cons]
    by_cases h0 : weatherE b x = 0
    · rw [if_pos h0, weathers_iff (l := r)]
      exact ⟨fun h => ⟨h0, h⟩, fun h => h.2⟩
    · rw [if_neg h0]
      exact ⟨fun h => absurd h h0, fun h => absurd h.1 h0⟩

theorem weatherE_zero (w : Weather) : weatherE [] w = 0 ↔ (1 ≤ w.depth.lo ∧ w.depth.lo ≤ w.depth.hi ∧ w.depth.hi ≤ 1000) ∧ (0 ≤ w.wind.lo ∧ w.wind.lo ≤ w.wind.hi ∧ w.wind.hi ≤ 80) ∧ (0 ≤ w.current.lo ∧ w.current.lo ≤ w.current.hi ∧ w.current.hi ≤ 80) ∧ (0 ≤ w.swell.lo ∧ w.swell.lo ≤ w.swell.hi ∧ w.swell.hi ≤ 150) := by
  unfold weatherE
  split
  · rename_i h
    simp only [Bool.and_eq_true, inB_iff] at h
    split
    · exact ⟨fun h => absurd h (by decide), fun h => by omega⟩
    · exact ⟨fun _ => by omega, fun _ => rfl⟩
  · rename_i h
    refine ⟨fun h => absurd h (by decide), fun hw => absurd ?_ h⟩
    simp only [Bool.and_eq_true, inB_iff]
    omega

/-- What the error of a case is made of. -/
structure CaseG (c : Case) : Prop where
  plain : plainF c.chain = 0
  shots : ∀ x ∈ c.chain.shots, (nameF x.name = true ∧ checkF x = 0) ∧ x.set ≤ c.day
  names : c.chain.shots.Pairwise (fun a b => a.name ≠ b.name)
  rows : (firstE rowE [] c.chain.rows 0).2 = 0
  ship : (inB c.ship.wind 0 10000 && (inB c.ship.current 0 10000 && inB c.ship.swell 0 10000) && inB c.ship.yaw 0 20) = true
  day : inB c.day 0 40000 = true
  wlen : inB c.weathers.length 1 6 = true
  weathers : ∀ x ∈ c.weathers, weatherE [] x = 0

theorem check_iff (c : Case) : (checkC c).2.2 = 0 ↔ CaseG c := by
  have hs := @shots_iff c.chain.shots [] 0
  have hw := @weathers_iff c.weathers [] 0
  constructor
  · intro h
    unfold checkC at h
    split at h
    · rename_i h1
      simp only at h
      split at h
      · rename_i h2
        unfold rowsE at h
        simp only at h
        split at h
        · rename_i h3
          unfold restE at h
          split at h
          · rename_i h4
            split at h
            · rename_i h5
              split at h
              · exact absurd h (by decide)
              · rename_i h6
                split at h
                · rename_i h7
                  simp only at h
                  split at h
                  · rename_i h8
                    obtain ⟨k1, k2⟩ := hs.1 h2
                    refine ⟨h1, fun x hx => ⟨(k1 x hx).1, ?_⟩, k2, h3, h4, h5, h7, hw.1 h8⟩
                    simp only [List.any_eq_true, decide_eq_true_eq, not_exists, not_and] at h6
                    have := h6 x hx
                    omega
                  · rename_i h8; exact absurd h h8
                · exact absurd h (by decide)
            · exact absurd h (by decide)
          · exact absurd h (by decide)
        · rename_i h3; exact absurd h h3
      · rename_i h2; exact absurd h h2
    · rename_i h1; exact absurd h h1
  · intro h
    have h6 : (c.chain.shots.any fun s => decide (s.set > c.day)) = false := by
      rw [List.any_eq_false]
      intro x hx
      have := (h.shots x hx).2
      simp; omega
    have h2 := hs.2 ⟨fun x hx => ⟨(h.shots x hx).1, by simp⟩, h.names⟩
    have h8 := hw.2 h.weathers
    simp only [checkC, if_pos h.plain, rowsE, restE, if_pos h2, if_pos h.rows, h.ship, h.day, h6, h.wlen, if_pos h8, if_true, Bool.false_eq_true, if_false]

theorem plain_iff {c : Chain} : plainF c = 0 ↔ (1 ≤ c.shots.length ∧ c.shots.length ≤ 7) ∧ (1 ≤ c.rows.length ∧ c.rows.length ≤ 6) ∧ (1 ≤ c.long ∧ c.long ≤ 50) ∧ (0 ≤ c.heavy ∧ c.heavy ≤ 200) ∧ (0 ≤ c.err ∧ c.err ≤ 2000) ∧ (0 ≤ c.hold.lo ∧ c.hold.lo ≤ c.hold.hi ∧ c.hold.hi ≤ 200000) := by
  unfold plainF
  split
  · rename_i h1
    simp only [Bool.and_eq_true, inB_iff] at h1
    split
    · rename_i h2
      simp only [Bool.and_eq_true, inB_iff] at h2
      split
      · exact ⟨fun h => absurd h (by decide), fun h => by omega⟩
      · exact ⟨fun _ => by omega, fun _ => rfl⟩
    · rename_i h2
      refine ⟨fun h => absurd h (by decide), fun h => absurd ?_ h2⟩
      simp only [Bool.and_eq_true, inB_iff]
      omega
  · rename_i h1
    refine ⟨fun h => absurd h (by decide), fun h => absurd ?_ h1⟩
    simp only [Bool.and_eq_true, inB_iff]
    omega

/-! Numbers of a span, by turns. -/

def amongF (s : Span) (n : Int) : Int := s.lo + n.tmod (s.hi - s.lo + 1)
def turnF (l : List Int) (n : Int) : Int := if l.length = 0 then 0 else l[(n.tmod l.length).toNat]?.getD 0

theorem amongF_in {s : Span} {n : Int} (hs : s.lo ≤ s.hi) (hn : 0 ≤ n) : s.lo ≤ amongF s n ∧ amongF s n ≤ s.hi := by
  unfold amongF
  rw [Int.tmod_eq_emod_of_nonneg hn]
  have h1 := Int.emod_nonneg n (show s.hi - s.lo + 1 ≠ 0 by omega)
  have h2 := Int.emod_lt_of_pos n (show 0 < s.hi - s.lo + 1 by omega)
  omega

def wordOk (l : List Int) : Prop := ∀ n ∈ l, 0 ≤ n ∧ n ≤ 65535

theorem turnF_in {l : List Int} (h : wordOk l) (n : Int) : 0 ≤ turnF l n ∧ turnF l n ≤ 65535 := by
  unfold turnF
  split
  · omega
  · cases hx : l[(n.tmod l.length).toNat]? with
    | none => simp
    | some x => simp only [Option.getD_some]; exact h x (List.mem_of_getElem? hx)

/-! A calmer case. -/

def calmW (x : List Int) (i : Nat) (w : Weather) : Weather :=
  ⟨⟨w.depth.lo, amongF w.depth (turnF x (4 * (i : Int) + 1))⟩, ⟨w.wind.lo, amongF w.wind (turnF x (4 * (i : Int) + 2))⟩, ⟨w.current.lo, amongF w.current (turnF x (4 * (i : Int) + 3))⟩, ⟨w.swell.lo, amongF w.swell (turnF x (4 * (i : Int) + 4))⟩⟩
def calmC (c : Case) (x : List Int) : Case := { c with chain := { c.chain with hold := ⟨amongF c.chain.hold (turnF x 0), c.chain.hold.hi⟩ }, weathers := c.weathers.mapIdx (calmW x) }

theorem calm_ok {c : Case} {x : List Int} (hx : wordOk x) (h : (checkC c).2.2 = 0) : (checkC (calmC c x)).2.2 = 0 := by
  have hR := case_ok h
  have hG := (check_iff c).1 h
  refine (check_iff _).2 ⟨?_, hG.shots, hG.names, hG.rows, hG.ship, hG.day, ?_, ?_⟩
  · have hp := plain_iff.1 hG.plain
    have ha := amongF_in (s := c.chain.hold) (by omega) (turnF_in hx 0).1
    refine plain_iff.2 ?_
    show (1 ≤ c.chain.shots.length ∧ c.chain.shots.length ≤ 7) ∧ (1 ≤ c.chain.rows.length ∧ c.chain.rows.length ≤ 6) ∧ (1 ≤ c.chain.long ∧ c.chain.long ≤ 50) ∧ (0 ≤ c.chain.heavy ∧ c.chain.heavy ≤ 200) ∧ (0 ≤ c.chain.err ∧ c.chain.err ≤ 2000) ∧ (0 ≤ amongF c.chain.hold (turnF x 0) ∧ amongF c.chain.hold (turnF x 0) ≤ c.chain.hold.hi ∧ c.chain.hold.hi ≤ 200000)
    omega
  · simp only [calmC, List.length_mapIdx]; exact hG.wlen
  · intro w hw
    simp only [calmC, List.mem_mapIdx] at hw
    obtain ⟨i, hi, rfl⟩ := hw
    have hwo := (weatherE_zero _).1 (hG.weathers c.weathers[i] (List.getElem_mem ..))
    have h1 := amongF_in (s := c.weathers[i].depth) (by omega) (turnF_in hx (4 * (i : Int) + 1)).1
    have h2 := amongF_in (s := c.weathers[i].wind) (by omega) (turnF_in hx (4 * (i : Int) + 2)).1
    have h3 := amongF_in (s := c.weathers[i].current) (by omega) (turnF_in hx (4 * (i : Int) + 3)).1
    have h4 := amongF_in (s := c.weathers[i].swell) (by omega) (turnF_in hx (4 * (i : Int) + 4)).1
    rw [weatherE_zero]
    simp only [calmW]
    omega

theorem worst_calm {c : Case} (hR : CaseR c) {x : List Int} (hx : wordOk x) {i : Nat} {w : Weather} (hw : w ∈ c.weathers) :
    Calmer (worstT (calmC c x) (thickL c) (calmW x i w)) (worstT c (thickL c) w) := by
  have hwo := hR.weathers w hw
  have hh := hR.hold
  have h0 := amongF_in (s := c.chain.hold) (by omega) (turnF_in hx 0).1
  have h1 := amongF_in (s := w.depth) (by omega) (turnF_in hx (4 * (i : Int) + 1)).1
  have h2 := amongF_in (s := w.wind) (by omega) (turnF_in hx (4 * (i : Int) + 2)).1
  have h3 := amongF_in (s := w.current) (by omega) (turnF_in hx (4 * (i : Int) + 3)).1
  have h4 := amongF_in (s := w.swell) (by omega) (turnF_in hx (4 * (i : Int) + 4)).1
  refine ⟨?_, ?_, ?_, ?_, ?_, rfl, fun k a b ha hb => ?_⟩
  · simp only [worstT, calmW]; omega
  · simp only [worstT, calmW]; omega
  · simp only [worstT, calmW]; omega
  · simp only [worstT, calmW]; omega
  · simp only [worstT, calmC]; omega
  · rw [show (worstT (calmC c x) (thickL c) (calmW x i w)).thick = (worstT c (thickL c) w).thick from rfl, hb] at ha
    obtain rfl : b = a := by simpa using ha
    have hm : b ∈ (thickL c).map Span.lo := List.mem_of_getElem? hb
    obtain ⟨s, hs, rfl⟩ := List.mem_map.1 hm
    have := (moor_ok hR).th s hs
    omega

theorem break_calm {c : Case} (h : (checkC c).2.2 = 0) {x : List Int} (hx : wordOk x) {out : Int} (ho : 0 ≤ out) (hb : (breakF c (thickL c) out).1 = 0) : (breakF (calmC c x) (thickL c) out).1 = 0 := by
  have hR := case_ok h
  unfold breakF at hb ⊢
  rw [break_zero] at hb ⊢
  intro w hw
  simp only [calmC, List.mem_mapIdx] at hw
  obtain ⟨i, hi, rfl⟩ := hw
  have hm : c.weathers[i] ∈ c.weathers := List.getElem_mem ..
  have h1 : judgeF c (worstT (calmC c x) (thickL c) (calmW x i c.weathers[i])) out = (0, 0) := judge_mono hR (case_rows h) (worst_calm hR hx hm) ho (hb _ hm)
  have h2 : judgeW (calmC c x) (thickL c) out (calmW x i c.weathers[i]) = judgeF c (worstT (calmC c x) (thickL c) (calmW x i c.weathers[i])) out := rfl
  rw [h2, h1]
end Go.PX

namespace Go.PX
open Go.Proofs

theorem fn43 (s : Span) (n : Int) (hs : 0 ≤ s.lo ∧ s.lo ≤ s.hi ∧ s.hi ≤ 1000000000) (hn : 0 ≤ n) : FnV Try.prog 43 [s.d, i64 n] (i64 (amongF s n)) := by
  refine fnV_of mixed tysOk Try.func43 rfl (ft := ft43) 2 (by decide +kernel) (by rfl) fun {σ} Y st => ?_
  conv => whnf
  have hb := amongF_in hs.2.1 hn
  unfold amongF at hb
  repeat' (first
    | (refine arith_in (wrap_i64 (by (try dsimp only); omega)) ?_; conv => whnf)
    | (refine elemK_nat (by assumption) ?_; conv => whnf)
    | (refine chk_i (by first | (simp; done) | (simp; omega)) ?_; conv => whnf))
  exact RetA_view 0 rfl ⟨⟨rfl, rfl⟩, rfl⟩

def wordsD (l : List Int) : D := .vs (l.map fun n => [.int .u16 n])

theorem fn44 (l : List Int) (n : Int) (hl : wordOk l) (hn : 0 ≤ n) : FnV Try.prog 44 [wordsD l, i64 n] (i64 (turnF l n)) := by
  refine fnV_of mixed tysOk Try.func44 rfl (ft := ft44) 2 (by decide +kernel) (by rfl) fun {σ} Y st => ?_
  conv => whnf
  by_cases h0 : l.length = 0
  · have he : turnF l n = 0 := by unfold turnF; rw [if_pos h0]
    rw [he]
    refine brk_i (fun _ => ?_) (fun h => absurd h (by simpa using h0))
    conv => whnf
    exact RetA_view 0 rfl ⟨⟨rfl, rfl⟩, rfl⟩
  · have ht : 0 ≤ n.tmod l.length ∧ n.tmod l.length < l.length := by
      rw [Int.tmod_eq_emod_of_nonneg hn]
      exact ⟨Int.emod_nonneg _ (by have := Nat.pos_of_ne_zero h0; omega), Int.emod_lt_of_pos _ (Int.natCast_pos.2 (Nat.pos_of_ne_zero h0))⟩
    have hx : l[(n.tmod l.length).toNat]? = some l[(n.tmod l.length).toNat] := List.getElem?_eq_getElem (by omega)
    have he : turnF l n = l[(n.tmod l.length).toNat] := by unfold turnF; rw [if_neg h0, hx]; rfl
    rw [he]
    have hb := hl _ (List.mem_of_getElem? hx)
    generalize l[(n.tmod l.length).toNat] = v at *
    refine brk_i (fun h => absurd h (by simpa using h0)) (fun _ => ?_)
    conv => whnf
    refine chk_i (by simpa using h0) ?_
    conv => whnf
    refine elemK_i [.int .u16 v] ⟨by simp; exact ht.1, by simp [hx]⟩ ?_
    conv => whnf
    refine arith_in (wrap_i64 (by (try dsimp only); omega)) ?_
    conv => whnf
    exact RetA_view 0 rfl ⟨⟨rfl, rfl⟩, rfl⟩
end Go.PX

namespace Go.PX
open Go.Proofs Go.RowKit Go.ChangeShapes
section
variable {P : Program} {W : World} {t : TypeId}
theorem Rd.intw {k : IntKind} (ht : P.underlying t = some (.int k)) : Rd P W t fun ds => ∃ n, ds = [.int k n] ∧ (Lit.int k n).wf = true := by
  refine ⟨?_⟩
  intro H enc sp held fuel cs x h
  obtain ⟨n, rfl, _, hw⟩ := DataW.trod_int ht h
  exact ⟨[.int k n], ⟨n, rfl, hw⟩, _, [], rfl, rfl, rfl⟩

theorem Rd.arr2 {e : TypeId} {S : List D → Prop} (ht : P.underlying t = some (.array 2 e)) (hn : P.cellsOf t = 2) (hk : P.cellsOf e = 1) (he : Rd P W e S) : Rd P W t (AllS [S, S]) := by
  refine ⟨?_⟩
  intro H enc sp held fuel cs x h
  cases fuel with
  | zero => simp [DataW.trod] at h
  | succ fuel =>
    unfold DataW.trod at h
    rw [ht] at h
    simp only at h
    split at h
    · rename_i hl
      rw [hn] at hl
      rw [hk] at h
      obtain ⟨xs, hxs, _⟩ := Option.map_eq_some_iff.1 h
      rw [show List.range 2 = [0, 1] from rfl] at hxs
      simp only [List.mapM_cons, List.mapM_nil, Option.bind_eq_bind, Option.bind_eq_some_iff, Option.pure_def, Option.some.injEq] at hxs
      obtain ⟨y0, hy0, ys, ⟨y1, hy1, _⟩, _⟩ := hxs
      obtain ⟨d0, s0, r0⟩ := he.read hy0
      obtain ⟨d1, s1, r1⟩ := he.read hy1
      match cs, hl with
      | [a, b], _ =>
        exact ⟨d0 ++ d1, ⟨d0, d1, rfl, s0, d1, [], by simp, s1, rfl⟩, by simpa using RepDL.app r0 r1⟩
    · cases h
end

theorem RepDL.one {F : Nat → Nat} {w : World} {d : D} {v : Value} (h : RepDL F w [d] [v]) : RepD F w d v := by
  obtain ⟨x, l', h1, hd, hl⟩ := h
  cases h1
  exact hd

theorem rdPair (W : World) : Rd Try.prog W 69 fun ds => ∃ p0 p1 : Int, ds = [.int .u16 p0, .int .u16 p1] ∧ (0 ≤ p0 ∧ p0 ≤ 65535) ∧ (0 ≤ p1 ∧ p1 ≤ 65535) :=
  (Rd.arr2 Try.underlying69 (by kernel_rfl) (by kernel_rfl) (Rd.intw Try.underlying56)).mono fun ds h => by
    obtain ⟨_, _, rfl, ⟨a, rfl, wa⟩, _, _, rfl, ⟨b, rfl, wb⟩, rfl⟩ := h
    simp only [Lit.wf, Bool.and_eq_true, decide_eq_true_eq] at wa wb
    refine ⟨a, b, rfl, ?_, ?_⟩
    · exact wa
    · exact wb

theorem wordIn {n : Int} (h : (Lit.int .u16 n).wf = true) : 0 ≤ n ∧ n ≤ 65535 := by
  simp only [Lit.wf, Bool.and_eq_true, decide_eq_true_eq] at h
  exact h
theorem byteIn {n : Int} (h : (Lit.int .u8 n).wf = true) : 0 ≤ n ∧ n ≤ 255 := by
  simp only [Lit.wf, Bool.and_eq_true, decide_eq_true_eq] at h
  exact h
theorem c56 : Try.prog.cellsOf 56 = 1 := by kernel_rfl
theorem rdWord (W : World) : Rd Try.prog W 56 fun ds => ∃ n : Int, ds = [.int .u16 n] ∧ (0 ≤ n ∧ n ≤ 65535) :=
  (Rd.intw Try.underlying56).mono fun ds h => by
    obtain ⟨n, rfl, wa⟩ := h
    simp only [Lit.wf, Bool.and_eq_true, decide_eq_true_eq] at wa
    exact ⟨n, rfl, wa⟩

theorem rdWords (W : World) : Rd Try.prog W 54 fun ds => ∃ l : List Int, ds = [wordsD l] ∧ wordOk l :=
  (Rd.slice Try.underlying54 c56 (by omega) (rdWord W)).mono fun ds h => by
    obtain ⟨es, rfl, he⟩ := h
    have : ∀ es : List (List D), (∀ e ∈ es, ∃ n : Int, e = [.int .u16 n] ∧ (0 ≤ n ∧ n ≤ 65535)) → ∃ l : List Int, es = l.map (fun n => [.int .u16 n]) ∧ wordOk l := by
      intro es
      induction es with
      | nil => intro _; exact ⟨[], rfl, fun n hn => by cases hn⟩
      | cons e r ih =>
        intro h
        obtain ⟨n, h1, h2⟩ := h e (by simp)
        obtain ⟨l, h3, h4⟩ := ih fun x hx => h x (by simp [hx])
        refine ⟨n :: l, by rw [h1, h3]; rfl, fun m hm => ?_⟩
        rcases List.mem_cons.1 hm with rfl | hm
        · exact h2
        · exact h4 m hm
    obtain ⟨l, h1, h2⟩ := this es he
    exact ⟨l, by rw [h1]; rfl, h2⟩
end Go.PX

/- PX: what an argument reads is data of a make, and of a size that its weights allow. -/
namespace Go.PX
open Go.RowKit Go.ChangeShapes

def wOk (l : List Nat) : Prop := ∀ n ∈ l, n ≤ reachBytes

theorem wOk_app {a b : List Nat} : wOk (a ++ b) ↔ wOk a ∧ wOk b :=
  ⟨fun h => ⟨fun n hn => h n (List.mem_append_left _ hn), fun n hn => h n (List.mem_append_right _ hn)⟩, fun h n hn => by
    rcases List.mem_append.1 hn with hn | hn
    · exact h.1 n hn
    · exact h.2 n hn⟩

theorem wOk_all {l : List Nat} (h : l.all (· ≤ reachBytes) = true) : wOk l := fun n hn => by
  have := List.all_eq_true.1 h n hn
  simpa using this

structure RdZ (P : Program) (W : World) (t : TypeId) (S : List D → Prop) : Prop where
  read : ∀ {H : Type} {enc : TypeId × Value → H} {sp : Nat → Bool} {held : Bool} {fuel : Nat} {cs : List Value} {x : DataW H × List MemPlace}, DataW.trod enc P W 0 sp held fuel t cs = some x → wOk (x.1.weights P t) → ∃ ds, S ds ∧ RepDL (topF W) W ds cs

section
variable {P : Program} {W : World} {t : TypeId}

theorem Rd.z {S : List D → Prop} (h : Rd P W t S) : RdZ P W t S := ⟨fun hx _ => h.read hx⟩

theorem RdZ.mono {S S' : List D → Prop} (h : RdZ P W t S) (hS : ∀ ds, S ds → S' ds) : RdZ P W t S' := by
  refine ⟨?_⟩
  intro H enc sp held fuel cs x hx hw
  obtain ⟨ds, h1, h2⟩ := h.read hx hw
  exact ⟨ds, hS ds h1, h2⟩

theorem RdZ.intw {k : IntKind} (ht : P.underlying t = some (.int k)) : RdZ P W t fun ds => ∃ n, ds = [.int k n] ∧ (Lit.int k n).wf = true := by
  refine ⟨?_⟩
  intro H enc sp held fuel cs x h _
  obtain ⟨n, rfl, _, hw⟩ := DataW.trod_int ht h
  exact ⟨[.int k n], ⟨n, rfl, hw⟩, _, [], rfl, rfl, rfl⟩

theorem RdZ.str (ht : P.underlying t = some .string) : RdZ P W t fun ds => ∃ s : ByteArray, ds = [.str s] ∧ s.size ≤ reachBytes := by
  refine ⟨?_⟩
  intro H enc sp held fuel cs x h hw
  obtain ⟨n, rfl, hx, _⟩ := DataW.trod_string ht h
  refine ⟨[.str n], ⟨n, rfl, ?_⟩, _, [], rfl, rfl, rfl⟩
  subst hx
  have := hw n.data.toList.length (List.mem_cons_self ..)
  rw [Array.length_toList] at this
  exact this

theorem weightsAll_mem {H : Type} {e : TypeId} : ∀ {l : List (DataW H)} {d : DataW H}, d ∈ l → wOk (DataW.weightsAll P e l) → wOk (d.weights P e)
  | a :: r, d, hd, h => by
    rw [DataW.weightsAll] at h
    rcases List.mem_cons.1 hd with rfl | hd
    · exact (wOk_app.1 h).1
    · exact weightsAll_mem hd (wOk_app.1 h).2

theorem RdZ.slice {e : TypeId} {S : List D → Prop} (ht : P.underlying t = some (.slice e)) {k : Nat} (hk : P.cellsOf e = k) (hpos : 0 < k) (he : RdZ P W e S) :
    RdZ P W t fun ds => ∃ es, ds = [.vs es] ∧ (∀ e ∈ es, S e) ∧ es.length * P.bytesOf e ≤ reachBytes := by
  subst hk
  refine ⟨?_⟩
  intro H enc sp held fuel cs x h hw
  rcases DataW.trod_slice ht h with ⟨rfl, _⟩ | ⟨a, len, cap, elems, rest, n, rfl, rfl, hxe, _, hl, _, hlen, hel, _, _⟩
  · exact ⟨[.vs []], ⟨[], rfl, fun e h => by (cases h), by simp⟩, _, [], rfl, ⟨none, 0, 0, rfl, rfl, Nat.le_refl _, fun h => absurd rfl h⟩, rfl⟩
  · by_cases h0 : len = 0
    · subst h0
      exact ⟨[.vs []], ⟨[], rfl, fun e h => by (cases h), by simp⟩, _, [], rfl, ⟨some a, 0, cap, rfl, rfl, hl, fun h => absurd rfl h⟩, rfl⟩
    subst hxe
    rw [DataW.weights, ht] at hw
    have hsz : len * P.bytesOf e ≤ reachBytes := by
      have := hw ((elems.length + rest.length) * P.bytesOf e) (by simp)
      have h2 : len * P.bytesOf e ≤ (elems.length + rest.length) * P.bytesOf e := Nat.mul_le_mul_right _ (by omega)
      omega
    have hwe : wOk (DataW.weightsAll P e (elems.map (·.1))) := by
      intro n hn
      exact hw n (by simp; right; left; simpa using hn)
    have one : ∀ i, i < len → ∃ cs ds, W.cells? 0 (a.add (i * P.cellsOf e)) (P.cellsOf e) = some cs ∧ S ds ∧ RepDL (topF W) W ds cs := by
      intro i hi
      have h1 := hel i hi
      have hge : elems[i]? = some elems[i] := List.getElem?_eq_getElem (by omega)
      rw [hge] at h1
      obtain ⟨cs, h2, h3⟩ := Option.bind_eq_some_iff.1 h1
      obtain ⟨ds, h4, h5⟩ := he.read h3 (weightsAll_mem (List.mem_map.2 ⟨_, List.mem_of_getElem? hge, rfl⟩) hwe)
      exact ⟨cs, ds, h2, h4, h5⟩
    have hs : a.spot = none := by
      obtain ⟨cs, ds, h1, _, h3⟩ := one 0 (by omega)
      obtain ⟨g1, g2⟩ := cells_get h1
      have hlt : 0 < cs.length := by omega
      have := g2 0 cs[0] (List.getElem?_eq_getElem hlt)
      have := World.cell?_spot this
      simpa [Addr.add] using this
    obtain ⟨b, off, spot⟩ := a
    simp only at hs
    subst hs
    obtain ⟨es, g1, g2, g3⟩ := repEs_of (e := e) (S := S) (W := W) (b := b) (k := P.cellsOf e) (n := len) (off := off) fun i hi => by
      obtain ⟨cs, ds, h1, h2, h3⟩ := one i hi
      obtain ⟨k1, k2⟩ := cells_get h1
      refine ⟨cs, ds, k1, fun j v hv => ?_, h2, h3⟩
      have := k2 j v hv
      have e1 : ∀ n m : Nat, (Addr.add ⟨b, n, none⟩ m) = ⟨b, n + m, none⟩ := by
        intro n m
        unfold Addr.add
        split
        · rename_i h; subst h; rfl
        · rfl
      rw [e1, e1] at this
      exact this
    exact ⟨[.vs es], ⟨es, rfl, g2, by rw [g1]; exact hsz⟩, _, [], rfl, ⟨some ⟨b, off, none⟩, len, cap, rfl, g1.symm, hl, fun _ => ⟨b, off, _, rfl, hpos, g3⟩⟩, rfl⟩

/-- The fields of a struct, read one by one. -/
inductive RdFZ (P : Program) (W : World) : List Field → Nat → Nat → List (List D → Prop) → Prop where
  | nil (n : Nat) : RdFZ P W [] n n []
  | cons {f : Field} {fs : List Field} {off n k : Nat} {S : List D → Prop} {Ss : List (List D → Prop)} (ho : f.offset = off) (hk : P.cellsOf f.type = k) (hf : RdZ P W f.type S) (hr : RdFZ P W fs (off + k) n Ss) : RdFZ P W (f :: fs) off n (S :: Ss)

theorem rdFZ_read {fs : List Field} {off n : Nat} {Ss : List (List D → Prop)} (h : RdFZ P W fs off n Ss) : ∀ {H : Type} {enc : TypeId × Value → H} {sp : Nat → Bool} {held : Bool} {fuel : Nat} {cs : List Value} {xs : List (DataW H × List MemPlace)}, cs.length = n →
    fs.mapM (fun f => DataW.trod enc P W 0 sp held fuel f.type ((cs.drop f.offset).take (P.cellsOf f.type))) = some xs → wOk (DataW.weightsEach P (fs.map (·.type)) (xs.map (·.1))) → ∃ ds, AllS Ss ds ∧ RepDL (topF W) W ds (cs.drop off) := by
  induction h with
  | nil m =>
    intro H enc sp held fuel cs xs hn _ _
    rw [List.drop_eq_nil_of_le (by omega)]
    exact ⟨[], rfl, rfl⟩
  | @cons f fs off m k S Ss ho hk hf hr ih =>
    intro H enc sp held fuel cs xs hn hm hw
    rw [List.mapM_cons] at hm
    simp only [Option.bind_eq_bind, Option.bind_eq_some_iff, Option.pure_def, Option.some.injEq] at hm
    obtain ⟨y, hy, ys, hys, rfl⟩ := hm
    rw [List.map_cons, List.map_cons, DataW.weightsEach] at hw
    obtain ⟨hw1, hw2⟩ := wOk_app.1 hw
    obtain ⟨ds1, h1, h2⟩ := hf.read hy hw1
    obtain ⟨ds2, h3, h4⟩ := ih hn hys hw2
    rw [ho, hk] at h2
    refine ⟨ds1 ++ ds2, ⟨ds1, ds2, rfl, h1, h3⟩, ?_⟩
    have h5 := RepDL.app h2 h4
    rwa [show (cs.drop off).take k ++ cs.drop (off + k) = cs.drop off by rw [← List.drop_drop]; exact List.take_append_drop _ _] at h5

theorem RdZ.struct {fs : Array Field} {n : Nat} {Ss : List (List D → Prop)} (ht : P.underlying t = some (.struct fs)) (hn : P.cellsOf t = n) (hf : RdFZ P W fs.toList 0 n Ss) : RdZ P W t (AllS Ss) := by
  refine ⟨?_⟩
  intro H enc sp held fuel cs x h hw
  cases fuel with
  | zero => simp [DataW.trod] at h
  | succ fuel =>
    unfold DataW.trod at h
    rw [ht] at h
    simp only at h
    split at h
    · rename_i hl
      obtain ⟨xs, hxs, rfl⟩ := Option.map_eq_some_iff.1 h
      simp only at hw
      rw [DataW.weights, ht] at hw
      obtain ⟨ds, h1, h2⟩ := rdFZ_read hf (hl.trans hn) hxs hw
      exact ⟨ds, h1, by simpa using h2⟩
    · cases h

theorem RdZ.array {e : TypeId} {n k : Nat} {S : List D → Prop} (ht : P.underlying t = some (.array n e)) (hn : P.cellsOf t = n * k) (hk : P.cellsOf e = k) (he : RdZ P W e S) :
    RdZ P W t fun ds => ∃ dss : List (List D), ds = dss.flatten ∧ dss.length = n ∧ ∀ d ∈ dss, S d := by
  refine ⟨?_⟩
  intro H enc sp held fuel cs x h hw
  cases fuel with
  | zero => simp [DataW.trod] at h
  | succ fuel =>
    unfold DataW.trod at h
    rw [ht] at h
    simp only at h
    split at h
    · rename_i hl
      obtain ⟨xs, hxs, rfl⟩ := Option.map_eq_some_iff.1 h
      simp only at hw
      rw [DataW.weights, ht] at hw
      rw [hk] at hxs
      have hlen : xs.length = n := by simpa using mapM_some_length hxs
      have step : ∀ m, m ≤ n → ∃ dss : List (List D), dss.length = m ∧ (∀ d ∈ dss, S d) ∧ RepDL (topF W) W dss.flatten (cs.take (m * k)) := by
        intro m
        induction m with
        | zero => intro _; exact ⟨[], rfl, fun d h => by (cases h), by rw [Nat.zero_mul]; exact (List.take_zero : cs.take 0 = [])⟩
        | succ m ih =>
          intro hm
          obtain ⟨dss, h1, h2, h3⟩ := ih (by omega)
          have hg := mapM_some_get hxs m m (by rw [List.getElem?_range (by omega)])
          have hge : xs[m]? = some xs[m] := List.getElem?_eq_getElem (by omega)
          rw [hge] at hg
          obtain ⟨d, h4, h5⟩ := he.read hg (weightsAll_mem (List.mem_map.2 ⟨_, List.mem_of_getElem? hge, rfl⟩) hw)
          refine ⟨dss ++ [d], by simp [h1], fun u hu => ?_, ?_⟩
          · rcases List.mem_append.1 hu with hu | hu
            · exact h2 u hu
            · rw [List.mem_singleton] at hu; subst hu; exact h4
          · rw [Nat.add_mul, Nat.one_mul, List.take_add]
            simpa using RepDL.app h3 h5
      obtain ⟨dss, h1, h2, h3⟩ := step n (Nat.le_refl _)
      refine ⟨dss.flatten, ⟨dss, rfl, h1, h2⟩, ?_⟩
      rwa [List.take_of_length_le (by omega)] at h3
    · cases h
end
end Go.PX

namespace Go.PX
open Go.Proofs Go.RowKit Go.ChangeShapes

/-- As many things as a size of memory allows. -/
def szOk (n k : Nat) : Prop := n * k ≤ 140737488351232

theorem sz_of {n k : Nat} (h : n * k ≤ reachBytes) : szOk n k := h

section
variable (W : World)
theorem rdWordsZ : RdZ Try.prog W 54 fun ds => ∃ l : List Int, ds = [wordsD l] ∧ wordOk l ∧ szOk l.length 2 :=
  (RdZ.slice Try.underlying54 c56 (by omega) (rdWord W).z).mono fun ds h => by
    obtain ⟨es, rfl, he, hz⟩ := h
    rw [show Try.prog.bytesOf 56 = 2 by kernel_rfl] at hz
    have : ∀ es : List (List D), (∀ e ∈ es, ∃ n : Int, e = [.int .u16 n] ∧ (0 ≤ n ∧ n ≤ 65535)) → ∃ l : List Int, es = l.map (fun n => [.int .u16 n]) ∧ wordOk l := by
      intro es
      induction es with
      | nil => intro _; exact ⟨[], rfl, fun n hn => by cases hn⟩
      | cons e r ih =>
        intro h
        obtain ⟨n, h1, h2⟩ := h e (by simp)
        obtain ⟨l, h3, h4⟩ := ih fun x hx => h x (by simp [hx])
        refine ⟨n :: l, by rw [h1, h3]; rfl, fun m hm => ?_⟩
        rcases List.mem_cons.1 hm with rfl | hm
        · exact h2
        · exact h4 m hm
    obtain ⟨l, h1, h2⟩ := this es he
    refine ⟨l, by rw [h1]; rfl, h2, ?_⟩
    rw [h1, List.length_map] at hz
    exact sz_of hz

theorem list_ofZ {α : Type} {f : α → List D} {Q : α → Prop} : ∀ {es : List (List D)}, (∀ e ∈ es, ∃ a, e = f a ∧ Q a) → ∃ l : List α, es = l.map f ∧ ∀ a ∈ l, Q a
  | [], _ => ⟨[], rfl, fun a h => by (cases h)⟩
  | e :: r, he => by
    obtain ⟨a, ha, hq⟩ := he e (by simp)
    obtain ⟨l, hl, hr⟩ := list_ofZ (es := r) fun x hx => he x (by simp [hx])
    refine ⟨a :: l, by rw [ha, hl]; rfl, fun x hx => ?_⟩
    rcases List.mem_cons.1 hx with rfl | hx
    · exact hq
    · exact hr x hx

theorem rdGaugesZ : RdZ Try.prog W 59 fun ds => ∃ l : List Gauge, ds = [gaugesD l] ∧ szOk l.length 16 :=
  (RdZ.slice Try.underlying59 c68 (by omega) (rdGauge W).z).mono fun ds h => by
    obtain ⟨es, rfl, he, hz⟩ := h
    rw [show Try.prog.bytesOf 68 = 16 by kernel_rfl] at hz
    obtain ⟨l, rfl⟩ := list_of (fun _ h => h) he
    exact ⟨l, rfl, by rw [List.length_map] at hz; exact sz_of hz⟩

theorem rdShotZ : RdZ Try.prog W 61 fun ds => ∃ s : Shot, ds = s.cells ∧ szOk s.gauges.length 16 :=
  (RdZ.struct Try.underlying61 c61 (.cons rfl c9 (rdStr W).z (.cons rfl c3 (rdInt W).z (.cons rfl c3 (rdInt W).z (.cons rfl c24 (rdSpan W).z (.cons rfl c24 (rdSpan W).z (.cons rfl c59 (rdGaugesZ W) (.nil _)))))))).mono fun ds h => by
    obtain ⟨_, _, rfl, ⟨a, rfl⟩, _, _, rfl, ⟨b, rfl⟩, _, _, rfl, ⟨c, rfl⟩, _, _, rfl, ⟨d, rfl⟩, _, _, rfl, ⟨e, rfl⟩, _, _, rfl, ⟨f, rfl, hf⟩, rfl⟩ := h
    exact ⟨⟨a, b, c, d, e, f⟩, rfl, hf⟩

theorem rdShotsZ : RdZ Try.prog W 22 fun ds => ∃ l : List Shot, ds = [shotsD l] ∧ szOk l.length 88 ∧ ∀ s ∈ l, szOk s.gauges.length 16 :=
  (RdZ.slice Try.underlying22 c61 (by omega) (rdShotZ W)).mono fun ds h => by
    obtain ⟨es, rfl, he, hz⟩ := h
    rw [show Try.prog.bytesOf 61 = 88 by kernel_rfl] at hz
    obtain ⟨l, rfl, hl⟩ := list_ofZ he
    exact ⟨l, rfl, by rw [List.length_map] at hz; exact sz_of hz, hl⟩

theorem rdWeathersZ : RdZ Try.prog W 30 fun ds => ∃ l : List Weather, ds = [weathersD l] ∧ szOk l.length 64 :=
  (RdZ.slice Try.underlying30 c79 (by omega) (rdWeather W).z).mono fun ds h => by
    obtain ⟨es, rfl, he, hz⟩ := h
    rw [show Try.prog.bytesOf 79 = 64 by kernel_rfl] at hz
    obtain ⟨l, rfl⟩ := list_of (fun _ h => h) he
    exact ⟨l, rfl, by rw [List.length_map] at hz; exact sz_of hz⟩

theorem rdWords2 : Rd Try.prog W 55 fun ds => ∃ x off : List Int, ds = [wordsD x, wordsD off] ∧ wordOk x ∧ wordOk off :=
  (Rd.arr2 Try.underlying55 (by kernel_rfl) (by kernel_rfl) (rdWords W)).mono fun ds h => by
    obtain ⟨_, _, rfl, ⟨a, rfl, wa⟩, _, _, rfl, ⟨b, rfl, wb⟩, rfl⟩ := h
    exact ⟨a, b, rfl, wa, wb⟩

/-- The size of a case. -/
structure CaseZ (c : Case) : Prop where
  shots : szOk c.chain.shots.length 88
  gauges : ∀ s ∈ c.chain.shots, szOk s.gauges.length 16
  weathers : szOk c.weathers.length 64

theorem rdChainZ : RdZ Try.prog W 27 fun ds => ∃ c : Chain, ds = c.cells ∧ szOk c.shots.length 88 ∧ ∀ s ∈ c.shots, szOk s.gauges.length 16 :=
  (RdZ.struct Try.underlying27 c27 (.cons rfl c22 (rdShotsZ W) (.cons rfl c3 (rdInt W).z (.cons rfl c3 (rdInt W).z (.cons rfl c3 (rdInt W).z (.cons rfl c24 (rdSpan W).z (.cons rfl c25 (rdRows W).z (.nil _)))))))).mono fun ds h => by
    obtain ⟨_, _, rfl, ⟨a, rfl, h1, h2⟩, _, _, rfl, ⟨b, rfl⟩, _, _, rfl, ⟨c, rfl⟩, _, _, rfl, ⟨d, rfl⟩, _, _, rfl, ⟨e, rfl⟩, _, _, rfl, ⟨f, rfl⟩, rfl⟩ := h
    exact ⟨⟨a, b, c, d, e, f⟩, rfl, h1, h2⟩

theorem rdCaseZ : RdZ Try.prog W 32 fun ds => ∃ c : Case, ds = c.cells ∧ CaseZ c :=
  (RdZ.struct Try.underlying32 c32 (.cons rfl c27 (rdChainZ W) (.cons rfl c29 (rdShip W).z (.cons rfl c3 (rdInt W).z (.cons rfl c30 (rdWeathersZ W) (.nil _)))))).mono fun ds h => by
    obtain ⟨_, _, rfl, ⟨a, rfl, h1, h2⟩, _, _, rfl, ⟨b, rfl⟩, _, _, rfl, ⟨c, rfl⟩, _, _, rfl, ⟨d, rfl, h3⟩, rfl⟩ := h
    exact ⟨⟨a, b, c, d⟩, rfl, h1, h2, h3⟩
end
end Go.PX

namespace Go.PX
open Go.Proofs

theorem goE_in {c : Case} (h : (checkC c).2.2 = 0) {out : Int} (ho : 1 ≤ out ∧ out ≤ linksF c.chain.shots) : goE c out false = 0 := by
  unfold goE
  rw [if_neg (by simp [h]), if_neg (by simp), if_pos (inB_iff.2 ho)]

theorem bad_in {c : Case} {i : Nat} {w : Weather} (hw : c.weathers[i]? = some w) : badAt c i = false := by
  have := (List.getElem?_eq_some_iff.1 hw).1
  unfold badAt
  rw [inB_iff.2 (by omega)]; rfl

theorem pull_in {c : Case} (h : (checkC c).2.2 = 0) {i : Nat} {w : Weather} (hw : c.weathers[i]? = some w) {out : Int} (ho : 1 ≤ out ∧ out ≤ linksF c.chain.shots) : pullE c i out = (pullF c.ship (pullT w) out, 0) := by
  unfold pullE
  rw [bad_in hw, if_pos (goE_in h ho)]
  simp [hw]

def calmA (c : Case) (x : List Int) : List D := [shotsD c.chain.shots, i64 c.chain.long, i64 c.chain.heavy, i64 c.chain.err, i64 (amongF c.chain.hold (turnF x 0)), i64 c.chain.hold.hi, rowsD c.chain.rows,
  i64 c.ship.wind, i64 c.ship.current, i64 c.ship.swell, i64 c.ship.yaw, i64 c.day]

theorem fn11 (c : Case) (n : Int) (x : List Int) (hn : 0 ≤ n ∧ n ≤ 65535) (hx : wordOk x) : FnV Try.prog 11 [c.d, .int .u16 n, wordsD x] (.bool true) := by
  refine fnV_of mixed tysOk Try.func11 rfl (ft := ft11) 3 (by decide +kernel) (by rfl) fun {σ} Y st => ?_
  conv => whnf
  refine CallA_v (ds := [c.d]) (fn33 c) rfl rfl ?_
  conv => whnf
  by_cases he : soundAll c = 0
  · refine brk_i (fun h => absurd h (by simp [he])) (fun _ => ?_)
    have h' : lookE c (checkC c).2.2 = 0 := he
    have h0 := (lookE_zero h').1
    have hR := case_ok h0
    have hh := hR.hold
    conv => whnf
    repeat' (first
      | (refine CallA_v (fn44 x 0 hx (by omega)) rfl rfl ?_; conv => whnf)
      | (refine CallA_view (fn44 x 0 hx (by omega)) rfl 1 rfl ?_; conv => whnf)
      | (refine DrawCall_v (fn44 x 0 hx (by omega)) rfl rfl ?_; conv => whnf)
      | (refine DrawCall_view (fn44 x 0 hx (by omega)) rfl 1 rfl ?_; conv => whnf)
      | (refine CallA_v (fn43 c.chain.hold (turnF x 0) (by omega) (turnF_in hx 0).1) rfl rfl ?_; conv => whnf)
      | (refine CallA_view (fn43 c.chain.hold (turnF x 0) (by omega) (turnF_in hx 0).1) rfl 1 rfl ?_; conv => whnf)
      | (refine DrawCall_v (fn43 c.chain.hold (turnF x 0) (by omega) (turnF_in hx 0).1) rfl rfl ?_; conv => whnf)
      | (refine DrawCall_view (fn43 c.chain.hold (turnF x 0) (by omega) (turnF_in hx 0).1) rfl 1 rfl ?_; conv => whnf)
      | (refine arith_in (wrap_i64 (by (try dsimp only); omega)) ?_; conv => whnf)
      | (refine elemK_nat (by assumption) ?_; conv => whnf)
      | (refine ownK_whole (by first | rfl | assumption | (simp [Els.len]; done) | (simp [Els.len]; omega)) ?_; conv => whnf)
      | (refine chk_i (by first | (simp [Els.len, Els.cons, V.cells]; done) | (simp [Els.len, Els.cons, V.cells]; omega)) ?_; conv => whnf)
      | fail)
    have hwl := hR.wlen
    refine LoopA_i (T := tys) tysOk (by exact drawsB_spec mixed tysOk (by decide +kernel)) c.weathers (fun i (g : List (List D) × Nat) => ⟨[(1, .d (.int .u16 n)), (2, .d (wordsD x)), (3, .ptr 3 0), (6, .d (.bool false)), (7, .ptr 7 0), (8, .d (i64 i))],
        [(3, .box (.dd c.cells)), (7, .box (.vv (inj (calmA c x) ++ [.sl 94 8 0 g.2]))), (94, .arr 8 (.dd g.1))], st⟩)
      (fun i r g => g.1 = ((c.weathers.mapIdx (calmW x)).take i).map Weather.cells ∧ i = g.2) ([], 0)
      ((Wk.bornAtD 7 94 8 (calmA c x) [] rfl rfl rfl rfl rfl).trans (Wk.sub ⟨rfl, rfl, rfl, rfl, rfl, rfl, trivial⟩ ⟨rfl, rfl, rfl, trivial⟩)) ⟨rfl, rfl⟩ ?_ ?_
    · rintro i w r ⟨es, k⟩ hw hi hr ⟨h1, h2⟩
      replace h1 : es = _ := h1
      replace h2 : i = k := h2
      subst h1 h2
      have hm := hR.weathers w (List.mem_of_getElem? hw)
      have hlt : ((c.weathers.mapIdx (calmW x)).take i).length = i := by simp; omega
      conv => whnf
      refine brk_i (fun _ => ?_) (fun h => absurd hi (by simpa using h))
      conv => whnf
      repeat' (first
        | (refine CallA_v (fn44 x (4 * (i : Int) + 1) hx (by omega)) rfl rfl ?_; conv => whnf)
        | (refine CallA_view (fn44 x (4 * (i : Int) + 1) hx (by omega)) rfl 1 rfl ?_; conv => whnf)
        | (refine DrawCall_v (fn44 x (4 * (i : Int) + 1) hx (by omega)) rfl rfl ?_; conv => whnf)
        | (refine DrawCall_view (fn44 x (4 * (i : Int) + 1) hx (by omega)) rfl 1 rfl ?_; conv => whnf)
        | (refine CallA_v (fn43 w.depth (turnF x (4 * (i : Int) + 1)) (by omega) (turnF_in hx _).1) rfl rfl ?_; conv => whnf)
        | (refine CallA_view (fn43 w.depth (turnF x (4 * (i : Int) + 1)) (by omega) (turnF_in hx _).1) rfl 1 rfl ?_; conv => whnf)
        | (refine DrawCall_v (fn43 w.depth (turnF x (4 * (i : Int) + 1)) (by omega) (turnF_in hx _).1) rfl rfl ?_; conv => whnf)
        | (refine DrawCall_view (fn43 w.depth (turnF x (4 * (i : Int) + 1)) (by omega) (turnF_in hx _).1) rfl 1 rfl ?_; conv => whnf)
        | (refine CallA_v (fn44 x (4 * (i : Int) + 2) hx (by omega)) rfl rfl ?_; conv => whnf)
        | (refine CallA_view (fn44 x (4 * (i : Int) + 2) hx (by omega)) rfl 1 rfl ?_; conv => whnf)
        | (refine DrawCall_v (fn44 x (4 * (i : Int) + 2) hx (by omega)) rfl rfl ?_; conv => whnf)
        | (refine DrawCall_view (fn44 x (4 * (i : Int) + 2) hx (by omega)) rfl 1 rfl ?_; conv => whnf)
        | (refine CallA_v (fn43 w.wind (turnF x (4 * (i : Int) + 2)) (by omega) (turnF_in hx _).1) rfl rfl ?_; conv => whnf)
        | (refine CallA_view (fn43 w.wind (turnF x (4 * (i : Int) + 2)) (by omega) (turnF_in hx _).1) rfl 1 rfl ?_; conv => whnf)
        | (refine DrawCall_v (fn43 w.wind (turnF x (4 * (i : Int) + 2)) (by omega) (turnF_in hx _).1) rfl rfl ?_; conv => whnf)
        | (refine DrawCall_view (fn43 w.wind (turnF x (4 * (i : Int) + 2)) (by omega) (turnF_in hx _).1) rfl 1 rfl ?_; conv => whnf)
        | (refine CallA_v (fn44 x (4 * (i : Int) + 3) hx (by omega)) rfl rfl ?_; conv => whnf)
        | (refine CallA_view (fn44 x (4 * (i : Int) + 3) hx (by omega)) rfl 1 rfl ?_; conv => whnf)
        | (refine DrawCall_v (fn44 x (4 * (i : Int) + 3) hx (by omega)) rfl rfl ?_; conv => whnf)
        | (refine DrawCall_view (fn44 x (4 * (i : Int) + 3) hx (by omega)) rfl 1 rfl ?_; conv => whnf)
        | (refine CallA_v (fn43 w.current (turnF x (4 * (i : Int) + 3)) (by omega) (turnF_in hx _).1) rfl rfl ?_; conv => whnf)
        | (refine CallA_view (fn43 w.current (turnF x (4 * (i : Int) + 3)) (by omega) (turnF_in hx _).1) rfl 1 rfl ?_; conv => whnf)
        | (refine DrawCall_v (fn43 w.current (turnF x (4 * (i : Int) + 3)) (by omega) (turnF_in hx _).1) rfl rfl ?_; conv => whnf)
        | (refine DrawCall_view (fn43 w.current (turnF x (4 * (i : Int) + 3)) (by omega) (turnF_in hx _).1) rfl 1 rfl ?_; conv => whnf)
        | (refine CallA_v (fn44 x (4 * (i : Int) + 4) hx (by omega)) rfl rfl ?_; conv => whnf)
        | (refine CallA_view (fn44 x (4 * (i : Int) + 4) hx (by omega)) rfl 1 rfl ?_; conv => whnf)
        | (refine DrawCall_v (fn44 x (4 * (i : Int) + 4) hx (by omega)) rfl rfl ?_; conv => whnf)
        | (refine DrawCall_view (fn44 x (4 * (i : Int) + 4) hx (by omega)) rfl 1 rfl ?_; conv => whnf)
        | (refine CallA_v (fn43 w.swell (turnF x (4 * (i : Int) + 4)) (by omega) (turnF_in hx _).1) rfl rfl ?_; conv => whnf)
        | (refine CallA_view (fn43 w.swell (turnF x (4 * (i : Int) + 4)) (by omega) (turnF_in hx _).1) rfl 1 rfl ?_; conv => whnf)
        | (refine DrawCall_v (fn43 w.swell (turnF x (4 * (i : Int) + 4)) (by omega) (turnF_in hx _).1) rfl rfl ?_; conv => whnf)
        | (refine DrawCall_view (fn43 w.swell (turnF x (4 * (i : Int) + 4)) (by omega) (turnF_in hx _).1) rfl 1 rfl ?_; conv => whnf)
        | (refine arith_in (wrap_i64 (by (try dsimp only); omega)) ?_; conv => whnf)
        | (refine elemK_nat (by assumption) ?_; conv => whnf)
        | (refine ownK_whole (by first | rfl | assumption | (simp [Els.len]; done) | (simp [Els.len]; omega)) ?_; conv => whnf)
        | (refine chk_i (by first | (simp [Els.len, Els.cons, V.cells]; done) | (simp [Els.len, Els.cons, V.cells]; omega)) ?_; conv => whnf)
        | fail)
      refine ⟨(_, _), ⟨?_, ?_⟩, (Wk.sub ⟨rfl, rfl, rfl, rfl, rfl, rfl, trivial⟩ ⟨rfl, rfl, rfl, trivial⟩)⟩
      · simp only [List.take_succ, List.map_append]
        simp [hw]
        rfl
      · simp [Els.len]; omega
    · rintro ⟨es, k⟩ ⟨h1, h2⟩
      replace h1 : es = _ := h1
      replace h2 : _ = k := h2
      subst h1 h2
      conv => whnf
      refine brk_i (fun h => absurd h (by simp)) (fun _ => ?_)
      conv => whnf
      rw [show (c.weathers.mapIdx (calmW x)).take c.weathers.length = c.weathers.mapIdx (calmW x) from List.take_of_length_le (by simp)]
      have hl := links_ok hR
      have ht : 0 ≤ n.tmod (linksF c.chain.shots) ∧ n.tmod (linksF c.chain.shots) < linksF c.chain.shots := by
        rw [Int.tmod_eq_emod_of_nonneg hn.1]
        exact ⟨Int.emod_nonneg _ (by omega), Int.emod_lt_of_pos _ (by omega)⟩
      repeat' (first
        | (refine CallA_v (fn34 c.chain (by have := hR.lens; omega) (links_bd hR)) rfl rfl ?_; conv => whnf)
        | (refine CallA_view (fn34 c.chain (by have := hR.lens; omega) (links_bd hR)) rfl 1 rfl ?_; conv => whnf)
        | (refine DrawCall_v (fn34 c.chain (by have := hR.lens; omega) (links_bd hR)) rfl rfl ?_; conv => whnf)
        | (refine DrawCall_view (fn34 c.chain (by have := hR.lens; omega) (links_bd hR)) rfl 1 rfl ?_; conv => whnf)
        | (refine arith_in (wrap_i64 (by (try dsimp only); omega)) ?_; conv => whnf)
        | (refine elemK_nat (by assumption) ?_; conv => whnf)
        | (refine ownK_whole (by first | rfl | assumption | (simp [Els.len]; done) | (simp [Els.len]; omega)) ?_; conv => whnf)
        | (refine chk_i (by first | (simp [Els.len, Els.cons, V.cells]; done) | (simp [Els.len, Els.cons, V.cells]; omega)) ?_; conv => whnf)
        | fail)
      obtain ⟨a, ha⟩ : ∃ a, a = 1 + n.tmod (linksF c.chain.shots) := ⟨_, rfl⟩
      rw [← ha]
      refine CallA_v (ds := [c.d, i64 a]) (fn25 c a) rfl rfl ?_
      conv => whnf
      refine CallA_view (ds := [(calmC c x).d, i64 a]) (fn25 (calmC c x) a) rfl 2 (viewL_cons (viewV_agg (viewL_app (a := calmA c x) (viewL_cons (viewV_sl rfl (by simp [calmC])) rfl))) rfl) ?_
      conv => whnf
      refine CallA_v (fn24 c 0 a) rfl rfl ?_
      conv => whnf
      refine CallA_view (ds := [(calmC c x).d, i64 0, i64 a]) (fn24 (calmC c x) 0 a) rfl 2 (viewL_cons (viewV_agg (viewL_app (a := calmA c x) (viewL_cons (viewV_sl rfl (by simp [calmC])) rfl))) rfl) ?_
      have h0c := calm_ok hx h0
      have hRc := case_ok h0c
      have hec : soundAll (calmC c x) = 0 := by
        have h2 : soundE (calmC c x) = soundE c := rfl
        simp [soundAll, lookE, h0c, h2, (lookE_zero h').2]
      obtain ⟨w, hw⟩ : ∃ w, c.weathers[0]? = some w := ⟨_, List.getElem?_eq_getElem (by omega)⟩
      have hm := hR.weathers w (List.mem_of_getElem? hw)
      have hwc : (calmC c x).weathers[0]? = some (calmW x 0 w) := by simp [calmC, hw]
      have ho : 1 ≤ a ∧ a ≤ linksF c.chain.shots := by omega
      have hp1 : pullE c 0 a = _ := pull_in h0 (i := 0) hw ho
      have hp2 : pullE (calmC c x) 0 a = _ := pull_in h0c (i := 0) hwc ho
      rw [whyE_in hR he ho, whyE_in hRc hec (show 1 ≤ a ∧ a ≤ linksF (calmC c x).chain.shots from ho), hp1, hp2]
      have hth : thickL (calmC c x) = thickL c := rfl
      have hsh : (calmC c x).ship = c.ship := rfl
      rw [hth, hsh]
      have hcw := worst_calm (x := x) hR hx (i := 0) (List.mem_of_getElem? hw)
      have hpm : pullF c.ship (pullT (calmW x 0 w)) a ≤ pullF c.ship (pullT w) a := by
        obtain ⟨s1, s2, s3, s4⟩ := hR.ship
        exact pull_mono ⟨s1.1, s2.1, s3.1, s4.1⟩ hcw.w hcw.c hcw.s (by omega)
      have hb := break_calm h0 hx (out := a) (by omega)
      conv => whnf
      rw [decide_eq_true hpm]
      conv => whnf
      by_cases hb0 : (breakF c (thickL c) a).1 = 0
      · rw [hb0, hb hb0]
        conv => whnf
        refine CallA_v (fn22) rfl rfl ?_
        conv => whnf
        exact RetA_view 0 rfl ⟨⟨rfl, rfl⟩, rfl⟩
      · rw [decide_eq_false hb0]
        conv => whnf
        refine CallA_v (fn22) rfl rfl ?_
        conv => whnf
        exact RetA_view 0 rfl ⟨⟨rfl, rfl⟩, rfl⟩
  · refine brk_i (fun _ => ?_) (fun h => absurd h (by simpa using he))
    conv => whnf
    refine CallA_v (fn22) rfl rfl ?_
    conv => whnf
    exact RetA_view 0 rfl ⟨⟨rfl, rfl⟩, rfl⟩
end Go.PX

namespace Go.PX
open Go.Proofs

theorem back_step {l : List Row} {i : Nat} {x : Row} (hx : l[i]? = some x) (ok : Row → Bool) :
    (((backL l (i + 1)).find? fun p => ok p.2).getD (0, ⟨0, 0⟩)).2.holds = if ok x then x.holds else (((backL l i).find? fun p => ok p.2).getD (0, ⟨0, 0⟩)).2.holds := by
  simp only [backL, hx, Option.getD_some, List.find?_cons]
  cases ok x <;> simp

theorem back_bd {c : Case} (h : CaseR c) (ok : Row → Bool) : ∀ {n : Nat}, n ≤ c.chain.rows.length → 0 ≤ (((backL c.chain.rows n).find? fun p => ok p.2).getD (0, ⟨0, 0⟩)).2.holds ∧ (((backL c.chain.rows n).find? fun p => ok p.2).getD (0, ⟨0, 0⟩)).2.holds ≤ 1000
  | 0, _ => by simp [backL]
  | n + 1, hn => by
    have hx : c.chain.rows[n]? = some c.chain.rows[n] := List.getElem?_eq_getElem (by omega)
    rw [back_step hx]
    have := h.rows c.chain.rows[n] (List.getElem_mem ..)
    have := back_bd h ok (n := n) (by omega)
    split <;> omega

theorem fn37 (c : Case) (t : Truth) (out : Int) (hc : CaseR c) (ht : ForceOk c.ship t) (ho : 0 ≤ out ∧ out ≤ 1000) (hl : t.thick.length = c.chain.shots.length) (hb : ∀ n ∈ t.thick, bd n) :
    FnV Try.prog 37 [c.d, i64 out, t.d] (.tup [i64 (judgeF c t out).1, i64 (judgeF c t out).2]) := by
  refine fnV_of mixed tysOk Try.func37 rfl (ft := ft37) 3 (by decide +kernel) (by rfl) fun {σ} Y st => ?_
  conv => whnf
  obtain ⟨_, _, _, _, _, _, hp⟩ := pull_bds ht ho
  have hrow := (rowF_ok hc t out).2
  have hhold := prod_bd 200000 1000 ht.thold hrow
  have hlen := hc.lens
  have hrl := hc.rlen
  have hlong := hc.long
  have hheavy := hc.heavy
  have hu := upF_bd (n := t.swell) (b := 2) 150 ht.tswell (by omega)
  have htd := ht.tdepth
  have hts := ht.tswell
  refine CallA_v (ds := [c.ship.d, t.d, i64 out]) (fn82 c.ship t out ht ho) rfl rfl ?_
  conv => whnf
  unfold judgeF
  generalize pullF c.ship t out = pull at *
  refine LoopA_i (T := tys) tysOk (by exact drawsB_spec mixed tysOk (by decide +kernel)) c.chain.rows (fun i (h : Int) => ⟨[(1, .d (i64 out)), (3, .ptr 3 0), (5, .ptr 5 0), (6, .d (i64 0)), (7, .d (i64 0)), (8, .d (i64 pull)), (9, .d (i64 h)), (10, .d (i64 i))],
      [(3, .box (.dd c.cells)), (5, .box (.dd t.cells))], st⟩)
    (fun i r h => h = (((backL c.chain.rows i).find? fun p => rowOk c t out p.2).getD (0, ⟨0, 0⟩)).2.holds) 0
    (Wk.sub ⟨rfl, rfl, rfl, rfl, rfl, rfl, rfl, rfl, trivial⟩ ⟨rfl, rfl, trivial⟩) rfl ?_ ?_
  · intro i x r h hx hi hr he
    have hr := hc.rows x (List.mem_of_getElem? hx)
    have b1 := prod_bd (a := x.scope) (b := t.depth + upF t.swell 2) 200 10000 (by omega) (by omega)
    have b2 := prod_bd (a := 10 * c.chain.long) (b := out) 500 1000 (by omega) (by omega)
    have e1 : (t.swell + 2 - 1).tdiv 2 = upF t.swell 2 := rfl
    conv => whnf
    refine brk_i (fun _ => ?_) (fun h => absurd hi (by simpa using h))
    conv => whnf
    repeat' (first
      | (refine CallA_v (fn83 t.swell 2 (by omega) (by omega)) rfl rfl ?_; conv => whnf)
      | (refine CallA_view (fn83 t.swell 2 (by omega) (by omega)) rfl 1 rfl ?_; conv => whnf)
      | (refine DrawCall_v (fn83 t.swell 2 (by omega) (by omega)) rfl rfl ?_; conv => whnf)
      | (refine DrawCall_view (fn83 t.swell 2 (by omega) (by omega)) rfl 1 rfl ?_; conv => whnf)
      | ((rw [e1]; refine arith_in (wrap_i64 (by (try dsimp only); omega)) ?_); conv => whnf)
      | (refine arith_in (wrap_i64 (by (try dsimp only); omega)) ?_; conv => whnf)
      | (refine elemK_nat (by assumption) ?_; conv => whnf)
      | (refine ownK_whole (by first | rfl | assumption | (simp [Els.len]; done) | (simp [Els.len]; omega)) ?_; conv => whnf)
      | (refine chk_i (by first | (simp [Els.len, Els.cons, V.cells]; done) | (simp [Els.len, Els.cons, V.cells]; omega)) ?_; conv => whnf)
      | fail)
    refine brk_i (fun h1 => ?_) (fun h1 => ?_)
    · have hk : rowOk c t out x = true := h1
      conv => whnf
      repeat' (first
        | (refine arith_in (wrap_i64 (by (try dsimp only); omega)) ?_; conv => whnf)
        | (refine elemK_nat (by assumption) ?_; conv => whnf)
        | (refine ownK_whole (by first | rfl | assumption | (simp [Els.len]; done) | (simp [Els.len]; omega)) ?_; conv => whnf)
        | (refine chk_i (by first | (simp [Els.len, Els.cons, V.cells]; done) | (simp [Els.len, Els.cons, V.cells]; omega)) ?_; conv => whnf)
        | fail)
      refine ⟨_, ?_, (Wk.sub ⟨rfl, rfl, rfl, rfl, rfl, rfl, rfl, rfl, trivial⟩ ⟨rfl, rfl, trivial⟩)⟩
      rw [back_step hx, if_pos hk]
    · have hk : rowOk c t out x = false := h1
      conv => whnf
      repeat' (first
        | (refine arith_in (wrap_i64 (by (try dsimp only); omega)) ?_; conv => whnf)
        | (refine elemK_nat (by assumption) ?_; conv => whnf)
        | (refine ownK_whole (by first | rfl | assumption | (simp [Els.len]; done) | (simp [Els.len]; omega)) ?_; conv => whnf)
        | (refine chk_i (by first | (simp [Els.len, Els.cons, V.cells]; done) | (simp [Els.len, Els.cons, V.cells]; omega)) ?_; conv => whnf)
        | fail)
      refine ⟨_, ?_, (Wk.sub ⟨rfl, rfl, rfl, rfl, rfl, rfl, rfl, rfl, trivial⟩ ⟨rfl, rfl, trivial⟩)⟩
      rw [back_step hx, hk]
      exact he
  · intro h he
    have hE : (rowF c t out).holds = h := by rw [he]; rfl
    clear he
    rw [hE] at hrow hhold ⊢
    conv => whnf
    refine brk_i (fun h => absurd h (by simp)) (fun _ => ?_)
    conv => whnf
    repeat' (first
      | (refine arith_in (wrap_i64 (by (try dsimp only); omega)) ?_; conv => whnf)
      | (refine elemK_nat (by assumption) ?_; conv => whnf)
      | (refine ownK_whole (by first | rfl | assumption | (simp [Els.len]; done) | (simp [Els.len]; omega)) ?_; conv => whnf)
      | (refine chk_i (by first | (simp [Els.len, Els.cons, V.cells]; done) | (simp [Els.len, Els.cons, V.cells]; omega)) ?_; conv => whnf)
      | fail)
    rw [show pull * 1000 = 1000 * pull by omega]
    refine brk_i (fun h1 => ?_) (fun h1 => ?_)
    · have h1 : 1000 * pull > t.hold * h := by simpa using h1
      rw [if_pos h1]
      conv => whnf
      exact RetA_view 0 rfl ⟨⟨rfl, rfl⟩, rfl⟩
    have h1 : ¬ 1000 * pull > t.hold * h := by simpa using h1
    rw [if_neg h1]
    conv => whnf
    refine LoopA_i (T := tys) tysOk (by exact drawsB_spec mixed tysOk (by decide +kernel)) c.chain.shots (fun i (n : Int) => ⟨[(1, .d (i64 out)), (3, .ptr 3 0), (5, .ptr 5 0), (6, .d (i64 0)), (7, .d (i64 0)), (8, .d (i64 pull)), (11, .d (i64 n)), (12, .d (i64 i))],
        [(3, .box (.dd c.cells)), (5, .box (.dd t.cells))], st⟩)
      (fun i r n => (0 ≤ n ∧ n ≤ i * 40) ∧ (∀ s ∈ r, ShotR s) ∧ judgeL c.chain.heavy pull out c.chain.shots t.thick 0 0 = judgeL c.chain.heavy pull out r (t.thick.drop i) n i) 0
      (Wk.sub ⟨rfl, rfl, rfl, rfl, rfl, rfl, rfl, rfl, trivial⟩ ⟨rfl, rfl, trivial⟩) ⟨by omega, fun s hs => (hc.shots s hs).1, rfl⟩ ?_ ?_
    · intro i x r n hx hi hr ⟨hn, hm, he⟩
      have hxl := (hm x (by simp)).links
      have hti : i < t.thick.length := by omega
      have htx : t.thick[i]? = some t.thick[i] := List.getElem?_eq_getElem hti
      have hbx := hb _ (List.getElem_mem hti)
      rw [List.drop_eq_getElem_cons hti, judgeL] at he
      generalize t.thick[i] = v at *
      have hi7 : i < 7 := by omega
      have hmn := prod_bd (a := c.chain.heavy) (b := min out (n + x.links)) 200 1000 hheavy (by omega)
      rw [show min (n + x.links) out = min out (n + x.links) from Int.min_comm _ _] at he
      conv => whnf
      refine brk_i (fun _ => ?_) (fun h => absurd hi (by simpa using h))
      conv => whnf
      refine brk_i (fun h2 => ?_) (fun h2 => ?_)
      · have h2 : n < out := by simpa using h2
        rw [if_neg (by omega)] at he
        conv => whnf
        repeat' (first
          | (refine CallA_v (fn69 v hbx) rfl rfl ?_; conv => whnf)
          | (refine CallA_view (fn69 v hbx) rfl 1 rfl ?_; conv => whnf)
          | (refine DrawCall_v (fn69 v hbx) rfl rfl ?_; conv => whnf)
          | (refine DrawCall_view (fn69 v hbx) rfl 1 rfl ?_; conv => whnf)
          | (refine arith_in (wrap_i64 (by (try dsimp only); omega)) ?_; conv => whnf)
          | (refine elemK_nat (by assumption) ?_; conv => whnf)
          | (refine ownK_whole (by first | rfl | assumption | (simp [Els.len]; done) | (simp [Els.len]; omega)) ?_; conv => whnf)
          | (refine chk_i (by first | (simp [Els.len, Els.cons, V.cells]; done) | (simp [Els.len, Els.cons, V.cells]; omega)) ?_; conv => whnf)
          | fail)
        refine brk_i (fun h3 => ?_) (fun h3 => ?_)
        · have h3 : strongF v < pull + c.chain.heavy * min out (n + x.links) := by simpa using h3
          rw [if_pos h3] at he
          conv => whnf
          rw [he]
          exact RetA_view 0 rfl ⟨⟨rfl, rfl⟩, rfl⟩
        · have h3 : ¬ strongF v < pull + c.chain.heavy * min out (n + x.links) := by simpa using h3
          rw [if_neg h3] at he
          conv => whnf
          repeat' (first
            | (refine arith_in (wrap_i64 (by (try dsimp only); omega)) ?_; conv => whnf)
            | (refine elemK_nat (by assumption) ?_; conv => whnf)
            | (refine ownK_whole (by first | rfl | assumption | (simp [Els.len]; done) | (simp [Els.len]; omega)) ?_; conv => whnf)
            | (refine chk_i (by first | (simp [Els.len, Els.cons, V.cells]; done) | (simp [Els.len, Els.cons, V.cells]; omega)) ?_; conv => whnf)
            | fail)
          exact ⟨n + x.links, ⟨by omega, fun s hs => hm s (by simp [hs]), he⟩, (Wk.sub ⟨rfl, rfl, rfl, rfl, rfl, rfl, rfl, rfl, trivial⟩ ⟨rfl, rfl, trivial⟩)⟩
      · have h2 : ¬ n < out := by simpa using h2
        rw [if_pos (by omega)] at he
        conv => whnf
        rw [he]
        exact RetA_view 0 rfl ⟨⟨rfl, rfl⟩, rfl⟩
    · rintro n ⟨_, _, he⟩
      rw [show ∀ ts n i, judgeL c.chain.heavy pull out [] ts n i = (0, 0) from fun ts n i => by cases ts <;> rfl] at he
      conv => whnf
      refine brk_i (fun h => absurd h (by simp)) (fun _ => ?_)
      conv => whnf
      rw [he]
      exact RetA_view 0 rfl ⟨⟨rfl, rfl⟩, rfl⟩
end Go.PX

namespace Go.PX
open Go.Proofs

theorem fold_range {set day : Int} : ∀ (l : List (Int × (Int × Int))) (acc : Span × Bool), acc.2 = true →
    (l.foldl (thickStep set day) acc).2 = true ∧ (l.foldl (thickStep set day) acc).1.lo ≤ acc.1.lo ∧ acc.1.hi ≤ (l.foldl (thickStep set day) acc).1.hi ∧
    (∀ t ∈ l, (l.foldl (thickStep set day) acc).1.lo ≤ onF set t.2.1 t.1 day ∧ onF set t.2.2 t.1 day ≤ (l.foldl (thickStep set day) acc).1.hi) ∧
    ((l.foldl (thickStep set day) acc).1.lo = acc.1.lo ∨ ∃ t ∈ l, (l.foldl (thickStep set day) acc).1.lo = onF set t.2.1 t.1 day) ∧
    ((l.foldl (thickStep set day) acc).1.hi = acc.1.hi ∨ ∃ t ∈ l, (l.foldl (thickStep set day) acc).1.hi = onF set t.2.2 t.1 day)
  | [], acc, h => by simp [h]
  | t :: r, acc, h => by
    rw [List.foldl_cons]
    have hs : thickStep set day acc t = (⟨min acc.1.lo (onF set t.2.1 t.1 day), max acc.1.hi (onF set t.2.2 t.1 day)⟩, true) := by simp [thickStep, h]
    obtain ⟨h1, h2, h3, h4, h5, h6⟩ := fold_range r (thickStep set day acc t) (by rw [hs])
    have e1 : (thickStep set day acc t).1.lo = min acc.1.lo (onF set t.2.1 t.1 day) := by rw [hs]
    have e2 : (thickStep set day acc t).1.hi = max acc.1.hi (onF set t.2.2 t.1 day) := by rw [hs]
    rw [e1] at h2 h5
    rw [e2] at h3 h6
    generalize r.foldl (thickStep set day) (thickStep set day acc t) = F at *
    refine ⟨h1, by clear h5 h6; omega, by clear h5 h6; omega, fun u hu => ?_, ?_, ?_⟩
    · clear h5 h6
      rcases List.mem_cons.1 hu with rfl | hu
      · omega
      · exact h4 u hu
    · clear h6
      rcases h5 with h5 | ⟨u, hu, h5⟩
      · by_cases hc : acc.1.lo ≤ onF set t.2.1 t.1 day
        · left; omega
        · right; exact ⟨t, by simp, by omega⟩
      · right; exact ⟨u, by simp [hu], h5⟩
    · clear h5
      rcases h6 with h6 | ⟨u, hu, h6⟩
      · by_cases hc : onF set t.2.2 t.1 day ≤ acc.1.hi
        · left; omega
        · right; exact ⟨t, by simp, by omega⟩
      · right; exact ⟨u, by simp [hu], h6⟩

/-- The range over the truths: its bounds, and that they are reached. -/
theorem range_spec (s : Shot) (off : Int) (gs : List Gauge) (day : Int) (h : truthsS s off gs ≠ []) :
    (rangeS s off gs day).2 = true ∧ (∀ t ∈ truthsS s off gs, (rangeS s off gs day).1.lo ≤ onF s.set t.2.1 t.1 day ∧ onF s.set t.2.2 t.1 day ≤ (rangeS s off gs day).1.hi) ∧
    (∃ t ∈ truthsS s off gs, (rangeS s off gs day).1.lo = onF s.set t.2.1 t.1 day) ∧ (∃ t ∈ truthsS s off gs, (rangeS s off gs day).1.hi = onF s.set t.2.2 t.1 day) := by
  rw [rangeS_fold]
  generalize truthsS s off gs = l at *
  cases l with
  | nil => exact absurd rfl h
  | cons t r =>
    rw [List.foldl_cons]
    have hs : thickStep s.set day (⟨0, 0⟩, false) t = (⟨onF s.set t.2.1 t.1 day, onF s.set t.2.2 t.1 day⟩, true) := by simp [thickStep]
    rw [hs]
    obtain ⟨h1, h2, h3, h4, h5, h6⟩ := fold_range r (⟨onF s.set t.2.1 t.1 day, onF s.set t.2.2 t.1 day⟩, true) rfl
    generalize r.foldl (thickStep s.set day) (⟨onF s.set t.2.1 t.1 day, onF s.set t.2.2 t.1 day⟩, true) = F at *
    refine ⟨h1, fun u hu => ?_, ?_, ?_⟩
    · rcases List.mem_cons.1 hu with rfl | hu
      · exact ⟨h2, h3⟩
      · exact h4 u hu
    · rcases h5 with h5 | ⟨u, hu, h5⟩
      · exact ⟨t, by simp, h5⟩
      · exact ⟨u, by simp [hu], h5⟩
    · rcases h6 with h6 | ⟨u, hu, h6⟩
      · exact ⟨t, by simp, h6⟩
      · exact ⟨u, by simp [hu], h6⟩

theorem onF_mono {set a b wear day : Int} (h : a ≤ b) : onF set a wear day ≤ onF set b wear day := by
  unfold onF
  omega

theorem truths_fit {set off : Int} {new : Int × Int} {gs : List Gauge} : ∀ {n : Nat} {wear : Int} {t : Int × (Int × Int)}, t ∈ truthsL set off new gs n wear ↔ (wear ≤ t.1 ∧ t.1 < wear + n ∧ fitsF set off t.1 new gs = some t.2)
  | 0, wear, t => by simp [truthsL]; omega
  | n + 1, wear, t => by
    simp only [truthsL]
    cases hf : fitsF set off wear new gs with
    | none =>
      simp only [truths_fit (n := n)]
      constructor
      · rintro ⟨h1, h2, h3⟩; exact ⟨by omega, by omega, h3⟩
      · rintro ⟨h1, h2, h3⟩
        have : wear ≠ t.1 := by rintro rfl; rw [hf] at h3; cases h3
        exact ⟨by omega, by omega, h3⟩
    | some f =>
      simp only [List.mem_cons, truths_fit (n := n)]
      constructor
      · rintro (rfl | ⟨h1, h2, h3⟩)
        · exact ⟨by simp, by simp; omega, hf⟩
        · exact ⟨by omega, by omega, h3⟩
      · rintro ⟨h1, h2, h3⟩
        by_cases he : t.1 = wear
        · left
          rw [he, hf] at h3
          cases h3
          exact Prod.ext he rfl
        · right
          exact ⟨by omega, by omega, h3⟩

theorem range_le {s : Shot} {off : Int} {gs : List Gauge} {day : Int} (hs : s.new.lo ≤ s.new.hi) (h : (rangeS s off gs day).2 = true) : (rangeS s off gs day).1.lo ≤ (rangeS s off gs day).1.hi := by
  rw [rangeS_some] at h
  have hne : truthsS s off gs ≠ [] := by
    intro he; rw [he] at h; simp at h
  obtain ⟨_, h2, ⟨t, ht, hl⟩, _⟩ := range_spec s off gs day hne
  have h3 := h2 t ht
  obtain ⟨_, _, hf⟩ := truths_fit.1 ht
  have hle := fitsF_le (p := (s.new.lo, s.new.hi)) hs hf
  have := onF_mono (set := s.set) (wear := t.1) (day := day) hle.2.1
  omega

/-! What a gauging says of a truth. -/

/-- A thickness at first agrees with a gauging, if the wear is known. -/
def agreeG (set off wear : Int) (g : Gauge) (n : Int) : Prop := (g.shown > off → g.shown - off + wear * (g.day - set) ≤ n) ∧ n ≤ g.shown + off + wear * (g.day - set)

theorem fits_iff {set off wear : Int} : ∀ {gs : List Gauge} {p : Int × Int} {n : Int}, (∃ q, fitsF set off wear p gs = some q ∧ q.1 ≤ n ∧ n ≤ q.2) ↔ (p.1 ≤ n ∧ n ≤ p.2 ∧ ∀ g ∈ gs, agreeG set off wear g n)
  | [], p, n => by simp [fitsF]
  | g :: r, p, n => by
    simp only [fitsF, List.forall_mem_cons]
    have hstep : (∃ q, fitStep set off wear p g = some q ∧ q.1 ≤ n ∧ n ≤ q.2) ↔ (p.1 ≤ n ∧ n ≤ p.2 ∧ agreeG set off wear g n) := by
      unfold fitStep agreeG
      simp only
      constructor
      · rintro ⟨q, hq, h1, h2⟩
        by_cases hg : g.shown > off
        · simp only [if_pos hg] at hq
          split at hq
          · cases hq
          · obtain rfl := Option.some.inj hq
            simp only at h1 h2
            exact ⟨by omega, by omega, fun _ => by omega, by omega⟩
        · simp only [if_neg hg] at hq
          split at hq
          · cases hq
          · obtain rfl := Option.some.inj hq
            simp only at h1 h2
            exact ⟨by omega, by omega, fun h => absurd h hg, by omega⟩
      · rintro ⟨h1, h2, h3, h4⟩
        by_cases hg : g.shown > off
        · have := h3 hg
          simp only [if_pos hg]
          rw [if_neg (by omega)]
          exact ⟨_, rfl, by simp only; omega, by simp only; omega⟩
        · simp only [if_neg hg]
          rw [if_neg (by omega)]
          exact ⟨_, rfl, by simp only; omega, by simp only; omega⟩
    cases hs : fitStep set off wear p g with
    | none =>
      constructor
      · rintro ⟨q, hq, _⟩; cases hq
      · rintro ⟨h1, h2, h3, _⟩
        obtain ⟨q, hq, _⟩ := hstep.2 ⟨h1, h2, h3⟩
        rw [hs] at hq; cases hq
    | some q =>
      simp only
      rw [fits_iff (gs := r)]
      constructor
      · rintro ⟨h1, h2, h3⟩
        obtain ⟨k1, k2, k3⟩ := hstep.1 ⟨q, hs, h1, h2⟩
        exact ⟨k1, k2, k3, h3⟩
      · rintro ⟨h1, h2, h3, h4⟩
        obtain ⟨q', hq, k1, k2⟩ := hstep.2 ⟨h1, h2, h3⟩
        rw [hs] at hq; cases hq
        exact ⟨k1, k2, h4⟩
end Go.PX
