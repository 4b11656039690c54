import Derived.Test.YtifbnniijibfgaaPxAB
set_option linter.all false
set_option maxRecDepth 10000
namespace Go.PX
open Go.Proofs

def soundAll (c : Case) : Int := lookE c (checkC c).2.2

theorem fn33 (c : Case) : FnV Try.prog 33 [c.d] (i64 (soundAll c)) := by
  refine fnV_of mixed tysOk Try.func33 rfl (ft := ft33) 1 (by decide +kernel) (by rfl) fun {σ} Y st => ?_
  conv => whnf
  refine CallA_v (fn14 c) rfl rfl ?_
  conv => whnf
  refine CallA_v (ds := [c.d, i64 (checkC c).2.2]) (fn68 c (checkC c).2.2 (fun h => (case_ok h).caseOk)) rfl rfl ?_
  rw [lookE_eq]
  conv => whnf
  exact RetA_view 0 rfl ⟨⟨rfl, rfl⟩, rfl⟩
end Go.PX

namespace Go.PX
open Go.Proofs

/-- All runs. -/
def runsL (ok : Int → Bool) : Nat → Int → Int → List Span
  | 0, _, _ => []
  | r + 1, k, a =>
    if ok k && decide (a = 0) then runsL ok r (k + 1) (k + 1)
    else if !ok k && decide (a > 0) then ⟨a, k⟩ :: runsL ok r (k + 1) 0
    else runsL ok r (k + 1) a

theorem runL_take {ok : Int → Bool} {n : Nat} : ∀ (r : Nat) (k a : Int) (acc : List Span), acc.length < n → runL ok n r k a acc = acc ++ (runsL ok r k a).take (n - acc.length)
  | 0, k, a, acc, h => by simp [runL, runsL]
  | r + 1, k, a, acc, h => by
    rw [runL, runsL]
    split
    · exact runL_take r _ _ _ h
    · split
      · split
        · rename_i h1
          rw [show n - acc.length = 1 by omega]
          simp
        · rename_i h1
          have hl : (acc ++ [Span.mk a k]).length = acc.length + 1 := by simp
          rw [runL_take r _ _ _ (by rw [hl]; omega), hl, List.append_assoc, show n - acc.length = (n - (acc.length + 1)) + 1 by omega]
          simp
      · exact runL_take r _ _ _ h

/-- Ascending, with gaps. -/
def Asc : Int → List Span → Prop
  | _, [] => True
  | b, s :: r => b ≤ s.lo ∧ s.lo ≤ s.hi ∧ Asc (s.hi + 2) r

theorem Asc.weak {b b' : Int} (h : b' ≤ b) : ∀ {l : List Span}, Asc b l → Asc b' l
  | [], _ => trivial
  | s :: r, ⟨h1, h2, h3⟩ => ⟨by omega, h2, h3⟩

theorem runsL_start {ok : Int → Bool} {k : Int} (h : ok k = true) (r : Nat) : runsL ok (r + 1) k 0 = runsL ok r (k + 1) (k + 1) := by simp [runsL, h]
theorem runsL_end {ok : Int → Bool} {k a : Int} (h : ok k = false) (ha : 0 < a) (r : Nat) : runsL ok (r + 1) k a = ⟨a, k⟩ :: runsL ok r (k + 1) 0 := by simp [runsL, h, ha]
theorem runsL_in {ok : Int → Bool} {k a : Int} (h : ok k = true) (ha : 0 < a) (r : Nat) : runsL ok (r + 1) k a = runsL ok r (k + 1) a := by
  have : a ≠ 0 := by omega
  simp [runsL, h, this]
theorem runsL_out {ok : Int → Bool} {k : Int} (h : ok k = false) (r : Nat) : runsL ok (r + 1) k 0 = runsL ok r (k + 1) 0 := by simp [runsL, h]

theorem runsL_asc (ok : Int → Bool) : ∀ (r : Nat) (k a : Int), 0 ≤ k → (a = 0 → Asc (k + 1) (runsL ok r k a)) ∧ (0 < a ∧ a ≤ k → Asc a (runsL ok r k a))
  | 0, k, a, _ => ⟨fun _ => trivial, fun _ => trivial⟩
  | r + 1, k, a, hk => by
    refine ⟨fun h => ?_, fun h => ?_⟩
    · subst h
      cases hok : ok k with
      | true => rw [runsL_start hok]; exact (runsL_asc ok r (k + 1) (k + 1) (by omega)).2 (by omega)
      | false => rw [runsL_out hok]; exact ((runsL_asc ok r (k + 1) 0 (by omega)).1 rfl).weak (by omega)
    · cases hok : ok k with
      | true => rw [runsL_in hok h.1]; exact (runsL_asc ok r (k + 1) a (by omega)).2 (by omega)
      | false => rw [runsL_end hok h.1]; exact ⟨Int.le_refl _, h.2, ((runsL_asc ok r (k + 1) 0 (by omega)).1 rfl).weak (by simp only; omega)⟩

def Cov (x : Int) (l : List Span) : Prop := ∃ s ∈ l, s.lo ≤ x ∧ x ≤ s.hi

theorem runsL_cov (ok : Int → Bool) (x : Int) : ∀ (r : Nat) (k a : Int), 0 ≤ k → 0 ≤ a ∧ a ≤ k → (r = 0 → a = 0) → (0 < r → ok (k + r - 1) = false) →
    (Cov x (runsL ok r k a) ↔ ((0 < a ∧ a ≤ x ∧ x ≤ k) ∨ (k + 1 ≤ x ∧ x ≤ k + r ∧ ok (x - 1) = true)))
  | 0, k, a, hk, ha, h0, _ => by
    have := h0 rfl
    simp only [runsL, Cov, List.not_mem_nil, false_and, exists_false, false_iff]
    omega
  | r + 1, k, a, hk, ha, _, hend => by
    have hend := hend (by omega)
    rw [show k + ((r + 1 : Nat) : Int) - 1 = k + r by omega] at hend
    have hx : ∀ b, ok k = b → (x = k + 1 → ok (x - 1) = b) := fun b hb h => by rw [h, show k + 1 - 1 = k by omega, hb]
    cases hok : ok k with
    | true =>
      have hr : 0 < r := by
        rcases Nat.eq_zero_or_pos r with h | h
        · subst h; rw [show k + ((0 : Nat) : Int) = k by omega, hok] at hend; cases hend
        · exact h
      have hx := hx true hok
      by_cases ha0 : 0 < a
      · rw [runsL_in hok ha0, runsL_cov ok x r (k + 1) a (by omega) (by omega) (by omega) (fun _ => by rw [show k + 1 + (r : Int) - 1 = k + r by omega]; exact hend)]
        constructor
        · rintro (h | ⟨h1, h2, h3⟩)
          · by_cases he : x = k + 1
            · exact .inr ⟨by omega, by omega, hx he⟩
            · exact .inl (by omega)
          · exact .inr ⟨by omega, by omega, h3⟩
        · rintro (h | ⟨h1, h2, h3⟩)
          · exact .inl (by omega)
          · by_cases he : x = k + 1
            · exact .inl (by omega)
            · exact .inr ⟨by omega, by omega, h3⟩
      · have ha1 : a = 0 := by omega
        subst ha1
        rw [runsL_start hok, runsL_cov ok x r (k + 1) (k + 1) (by omega) (by omega) (by omega) (fun _ => by rw [show k + 1 + (r : Int) - 1 = k + r by omega]; exact hend)]
        constructor
        · rintro (h | ⟨h1, h2, h3⟩)
          · exact .inr ⟨by omega, by omega, hx (by omega)⟩
          · exact .inr ⟨by omega, by omega, h3⟩
        · rintro (h | ⟨h1, h2, h3⟩)
          · omega
          · by_cases he : x = k + 1
            · exact .inl (by omega)
            · exact .inr ⟨by omega, by omega, h3⟩
    | false =>
      have hx := hx false hok
      have hne : ok (x - 1) = true → x ≠ k + 1 := fun h he => by rw [hx he] at h; cases h
      have ih := runsL_cov ok x r (k + 1) 0 (by omega) (by omega) (by omega) (fun _ => by rw [show k + 1 + (r : Int) - 1 = k + r by omega]; exact hend)
      by_cases ha0 : 0 < a
      · rw [runsL_end hok ha0]
        have e : Cov x (⟨a, k⟩ :: runsL ok r (k + 1) 0) ↔ ((a ≤ x ∧ x ≤ k) ∨ Cov x (runsL ok r (k + 1) 0)) := by
          simp [Cov]
        rw [e, ih]
        constructor
        · rintro (h | h | ⟨h1, h2, h3⟩)
          · exact .inl (by omega)
          · omega
          · exact .inr ⟨by omega, by omega, h3⟩
        · rintro (h | ⟨h1, h2, h3⟩)
          · exact .inl (by omega)
          · have := hne h3
            exact .inr (.inr ⟨by omega, by omega, h3⟩)
      · have ha1 : a = 0 := by omega
        subst ha1
        rw [runsL_out hok, ih]
        constructor
        · rintro (h | ⟨h1, h2, h3⟩)
          · omega
          · exact .inr ⟨by omega, by omega, h3⟩
        · rintro (h | ⟨h1, h2, h3⟩)
          · omega
          · have := hne h3
            exact .inr ⟨by omega, by omega, h3⟩

def allRuns (c : Case) (th : List Span) : List Span := runsL (holdsAt c th) (linksF c.chain.shots + 1).toNat 0 0

theorem scopesF_take (c : Case) (th : List Span) {n : Int} (hn : 1 ≤ n) : scopesF c th n = (allRuns c th).take n.toNat := by
  unfold scopesF allRuns
  have := runL_take (ok := holdsAt c th) (n := n.toNat) (linksF c.chain.shots + 1).toNat 0 0 [] (by simp; omega)
  rw [show ((n.toNat : Nat) : Int) = n by omega] at this
  simpa using this

theorem allRuns_asc (c : Case) (th : List Span) : Asc 1 (allRuns c th) := (runsL_asc _ _ 0 0 (by omega)).1 rfl

/-- A length is in a run if and only if it holds in every weather. -/
theorem allRuns_cov {c : Case} (h : CaseR c) (th : List Span) (x : Int) : Cov x (allRuns c th) ↔ (1 ≤ x ∧ x ≤ linksF c.chain.shots ∧ (breakF c th x).1 = 0) := by
  have hl := links_ok h
  unfold allRuns
  rw [runsL_cov (holdsAt c th) x _ 0 0 (by omega) (by omega) (by omega) (fun _ => by
    have : (0 : Int) + ((linksF c.chain.shots + 1).toNat : Int) - 1 = linksF c.chain.shots := by omega
    rw [this]; simp [holdsAt])]
  constructor
  · rintro (h | ⟨h1, h2, h3⟩)
    · omega
    · simp only [holdsAt, Bool.and_eq_true, decide_eq_true_eq] at h3
      rw [show x - 1 + 1 = x by omega] at h3
      exact ⟨by omega, by omega, h3.2⟩
  · rintro ⟨h1, h2, h3⟩
    refine .inr ⟨by omega, by omega, ?_⟩
    simp only [holdsAt, Bool.and_eq_true, decide_eq_true_eq]
    rw [show x - 1 + 1 = x by omega]
    exact ⟨by omega, h3⟩
end Go.PX

namespace Go.PX
open Go.Proofs

theorem Asc.get {l : List Span} : ∀ {b : Int} {i : Nat} {x : Span}, Asc b l → l[i]? = some x → b ≤ x.lo ∧ x.lo ≤ x.hi := by
  induction l with
  | nil => intro b i x h hx; simp at hx
  | cons s r ih =>
    intro b i x ⟨h1, h2, h3⟩ hx
    cases i with
    | zero => simp at hx; subst hx; exact ⟨h1, h2⟩
    | succ i =>
      have := ih h3 (by simpa using hx)
      exact ⟨by omega, this.2⟩

theorem Asc.gap {l : List Span} : ∀ {b : Int} {i : Nat} {x y : Span}, Asc b l → l[i]? = some y → l[i + 1]? = some x → y.hi + 2 ≤ x.lo := by
  induction l with
  | nil => intro b i x y h hy; simp at hy
  | cons s r ih =>
    intro b i x y ⟨h1, h2, h3⟩ hy hx
    cases i with
    | zero =>
      simp at hy hx; subst hy
      cases r with
      | nil => simp at hx
      | cons z r => simp at hx; subst hx; exact h3.1
    | succ i => exact ih h3 (by simpa using hy) (by simpa using hx)

theorem cov_app {a : Int} {l : List Span} {x : Span} : Cov a (l ++ [x]) ↔ (Cov a l ∨ (x.lo ≤ a ∧ a ≤ x.hi)) := by
  simp [Cov, or_and_right, exists_or]

theorem Asc.len {N : Int} : ∀ {l : List Span} {b : Int}, Asc b l → (∀ s ∈ l, s.hi ≤ N) → l = [] ∨ b + 2 * (l.length : Int) - 2 ≤ N
  | [], b, _, _ => .inl rfl
  | s :: r, b, ⟨h1, h2, h3⟩, hN => by
    right
    have hs := hN s (by simp)
    rcases Asc.len h3 (fun x hx => hN x (by simp [hx])) with rfl | h
    · simp only [List.length_cons, List.length_nil]; omega
    · simp only [List.length_cons]; omega

theorem scopesE_all {c : Case} (h : soundAll c = 0) : CaseR c ∧ scopesE c = (match allRuns c (thickL c) with | [] => ([], 9) | s :: r => (s :: r, 0)) := by
  have h' : lookE c (checkC c).2.2 = 0 := h
  have hR := case_ok (lookE_zero h').1
  refine ⟨hR, ?_⟩
  have hl := links_ok hR
  have hle : (allRuns c (thickL c)).length ≤ (linksF c.chain.shots).toNat := by
    have := (allRuns_asc c (thickL c)).len (N := linksF c.chain.shots) fun s hs => by
      obtain ⟨i, hi⟩ := List.mem_iff_getElem?.1 hs
      have h2 := (allRuns_asc c (thickL c)).get hi
      exact ((allRuns_cov hR (thickL c) s.hi).1 ⟨s, hs, h2.2, Int.le_refl _⟩).2.1
    rcases this with h | h
    · rw [h]; simp
    · omega
  unfold scopesE
  rw [if_pos h', scopesF_take c _ hl.1, List.take_of_length_le hle]
  cases allRuns c (thickL c) <;> rfl

theorem shortE_all {c : Case} (h : soundAll c = 0) : shortE c = (match allRuns c (thickL c) with | [] => (0, 9) | s :: r => (s.lo, 0)) := by
  have h' : lookE c (checkC c).2.2 = 0 := h
  unfold shortE
  rw [if_pos h', scopesF_take c _ (by omega)]
  cases allRuns c (thickL c) <;> rfl

theorem whyE_in {c : Case} (hR : CaseR c) (he : soundAll c = 0) {out : Int} (ho : 1 ≤ out ∧ out ≤ linksF c.chain.shots) : whyE c out = (breakF c (thickL c) out, 0) := by
  have h' : lookE c (checkC c).2.2 = 0 := he
  obtain ⟨h0, hs⟩ := lookE_zero h'
  have hg : goE c out false = 0 := by
    unfold goE
    rw [if_neg (by simp [h0]), if_neg (by simp), if_pos (inB_iff.2 ho)]
  have : lookE c (goE c out false) = 0 := by rw [hg]; simp [lookE, hs]
  unfold whyE
  rw [if_pos this]

def q2 (p0 p1 : Int) : D := .agg [.int .u16 p0, .int .u16 p1]

theorem fn9 (c : Case) (p0 p1 : Int) (h0 : 0 ≤ p0 ∧ p0 ≤ 65535) (h1 : 0 ≤ p1 ∧ p1 ≤ 65535) : FnV Try.prog 9 [c.d, q2 p0 p1] (.bool true) := by
  refine fnV_of mixed tysOk Try.func9 rfl (ft := ft9) 2 (by decide +kernel) (by rfl) fun {σ} Y st => ?_
  conv => whnf
  refine CallA_v (ds := [c.d]) (fn40 c) rfl rfl ?_
  conv => whnf
  refine CallA_v (ds := [c.d]) (fn41 c) rfl rfl ?_
  conv => whnf
  refine CallA_v (ds := [c.d]) (fn33 c) rfl rfl ?_
  conv => whnf
  by_cases he : soundAll c = 0
  · refine brk_i (fun h => absurd h (by simp [he])) (fun _ => ?_)
    obtain ⟨hR, hS⟩ := scopesE_all he
    conv => whnf
    refine CallA_v (fn34 c.chain (by have := hR.lens; omega) (links_bd hR)) rfl rfl ?_
    conv => whnf
    have hl := links_ok hR
    have ht : 0 ≤ p0.tmod (linksF c.chain.shots) ∧ p0.tmod (linksF c.chain.shots) < linksF c.chain.shots := by
      rw [Int.tmod_eq_emod_of_nonneg h0.1]
      exact ⟨Int.emod_nonneg _ (by omega), Int.emod_lt_of_pos _ (by omega)⟩
    refine arith_in (wrap_i64 (by (try dsimp only); omega)) ?_
    conv => whnf
    refine chk_i (by simp; omega) ?_
    conv => whnf
    refine arith_in (wrap_i64 (by (try dsimp only); omega)) ?_
    conv => whnf
    obtain ⟨a, ha⟩ : ∃ a, a = 1 + p0.tmod (linksF c.chain.shots) := ⟨_, rfl⟩
    rw [← ha]
    have hE := whyE_in hR he (out := a) (by omega)
    refine CallA_v (ds := [c.d, i64 a]) (fn25 c a) rfl rfl ?_
    rw [hE, shortE_all he, hS]
    have hc := allRuns_cov hR (thickL c) a
    obtain ⟨L, hL⟩ : ∃ L, L = allRuns c (thickL c) := ⟨_, rfl⟩
    rw [← hL] at hc hS ⊢
    have hasc : Asc 1 L := by rw [hL]; exact allRuns_asc c (thickL c)
    have hcov : ∀ x, Cov x L ↔ (1 ≤ x ∧ x ≤ linksF c.chain.shots ∧ (breakF c (thickL c) x).1 = 0) := by rw [hL]; exact allRuns_cov hR (thickL c)
    cases L with
    | nil =>
      have hk : (breakF c (thickL c) a).1 ≠ 0 := fun h => by
        obtain ⟨s, hs, _⟩ := (hcov a).2 ⟨by omega, by omega, h⟩
        cases hs
      conv => whnf
      rw [decide_eq_false hk]
      conv => whnf
      refine CallA_v (fn22) rfl rfl ?_
      conv => whnf
      exact RetA_view 0 rfl ⟨⟨rfl, rfl⟩, rfl⟩
    | cons s r =>
      have hN : ∀ z ∈ s :: r, z.hi ≤ linksF c.chain.shots := fun z hz => by
        obtain ⟨n, hn⟩ := List.mem_iff_getElem?.1 hz
        exact ((hcov z.hi).1 ⟨z, hz, (hasc.get hn).2, Int.le_refl _⟩).2.1
      have hlen : (s :: r).length ≤ 280 := by
        rcases hasc.len hN with h | h
        · cases h
        · omega
      conv => whnf
      refine LoopA_i (T := tys) tysOk (by exact drawsB_spec mixed tysOk (by decide +kernel)) (s :: r) (fun i (b : Bool) => ⟨[(2, .ptr 2 0), (3, .ptr 3 0), (5, .d (i64 s.lo)), (7, .d (spansD (s :: r))), (10, .d (i64 (linksF c.chain.shots))), (11, .d (i64 a)), (12, .d (i64 (breakF c (thickL c) a).1)), (16, .d (.bool b)), (17, .d (i64 i))],
          [(2, .box (.dd c.cells)), (3, .box (.dd [.int .u16 p0, .int .u16 p1]))], st⟩)
        (fun i l b => l.length ≤ 280 ∧ i ≤ 280 ∧ (b = true ↔ Cov a ((s :: r).take i))) false
        (Wk.sub ⟨(by first | rfl | (simp only [List.length_map]; rfl) | simp [PX.get]), (by first | rfl | (simp only [List.length_map]; rfl) | simp [PX.get]), (by first | rfl | (simp only [List.length_map]; rfl) | simp [PX.get]), (by first | rfl | (simp only [List.length_map]; rfl) | simp [PX.get]), (by first | rfl | (simp only [List.length_map]; rfl) | simp [PX.get]), (by first | rfl | (simp only [List.length_map]; rfl) | simp [PX.get]), (by first | rfl | (simp only [List.length_map]; rfl) | simp [PX.get]), (by first | rfl | (simp only [List.length_map]; rfl) | simp [PX.get]), (by first | rfl | (simp only [List.length_map]; rfl) | simp [PX.get]), trivial⟩ ⟨(by first | rfl | (simp only [List.length_map]; rfl) | simp [PX.get]), (by first | rfl | (simp only [List.length_map]; rfl) | simp [PX.get]), trivial⟩) ⟨hlen, by omega, by simp [Cov]⟩ ?_ ?_
      · intro i x l b hx hi hr ⟨hl1, hl2, hb⟩
        obtain ⟨x1, x2⟩ := hasc.get hx
        have htk : (s :: r).take (i + 1) = (s :: r).take i ++ [x] := by rw [List.take_succ, hx]; rfl
        conv => whnf
        refine brk_i (fun _ => ?_) (fun h => absurd hi (by simp at h hi ⊢; omega))
        conv => whnf
        refine elemK_nat hx ?_
        conv => whnf
        refine elemK_nat hx ?_
        conv => whnf
        rw [decide_eq_false (show ¬ x.hi < x.lo by omega)]
        conv => whnf
        have hxN := hN x (List.mem_of_getElem? hx)
        rcases Nat.eq_zero_or_pos i with h0i | h0i
        · subst h0i
          have hxs : x = s := by simpa using hx.symm
          subst hxs
          conv => whnf
          cases b with
          | true =>
            conv => whnf
            refine arith_in (wrap_i64 (by (try dsimp only); omega)) ?_
            conv => whnf
            exact ⟨true, ⟨by simp at hl1; omega, by omega, by rw [htk, cov_app]; exact ⟨fun _ => .inl (hb.1 rfl), fun _ => rfl⟩⟩, (Wk.sub ⟨(by first | rfl | (simp only [List.length_map]; rfl) | simp [PX.get]), (by first | rfl | (simp only [List.length_map]; rfl) | simp [PX.get]), (by first | rfl | (simp only [List.length_map]; rfl) | simp [PX.get]), (by first | rfl | (simp only [List.length_map]; rfl) | simp [PX.get]), (by first | rfl | (simp only [List.length_map]; rfl) | simp [PX.get]), (by first | rfl | (simp only [List.length_map]; rfl) | simp [PX.get]), (by first | rfl | (simp only [List.length_map]; rfl) | simp [PX.get]), (by first | rfl | (simp only [List.length_map]; rfl) | simp [PX.get]), (by first | rfl | (simp only [List.length_map]; rfl) | simp [PX.get]), trivial⟩ ⟨(by first | rfl | (simp only [List.length_map]; rfl) | simp [PX.get]), (by first | rfl | (simp only [List.length_map]; rfl) | simp [PX.get]), trivial⟩)⟩
          | false =>
            have hnb : ¬ Cov a ((x :: r).take 0) := fun h => by have := hb.2 h; cases this
            conv => whnf
            by_cases hx1 : x.lo ≤ a
            · rw [decide_eq_true hx1]
              conv => whnf
              refine arith_in (wrap_i64 (by (try dsimp only); omega)) ?_
              conv => whnf
              exact ⟨decide (a ≤ x.hi), ⟨by simp at hl1; omega, by omega, by rw [htk, cov_app]; simp only [hx1, true_and]; exact ⟨fun h => .inr (of_decide_eq_true h), fun h => decide_eq_true (h.resolve_left hnb)⟩⟩, (Wk.sub ⟨(by first | rfl | (simp only [List.length_map]; rfl) | simp [PX.get]), (by first | rfl | (simp only [List.length_map]; rfl) | simp [PX.get]), (by first | rfl | (simp only [List.length_map]; rfl) | simp [PX.get]), (by first | rfl | (simp only [List.length_map]; rfl) | simp [PX.get]), (by first | rfl | (simp only [List.length_map]; rfl) | simp [PX.get]), (by first | rfl | (simp only [List.length_map]; rfl) | simp [PX.get]), (by first | rfl | (simp only [List.length_map]; rfl) | simp [PX.get]), (by first | rfl | (simp only [List.length_map]; rfl) | simp [PX.get]), (by first | rfl | (simp only [List.length_map]; rfl) | simp [PX.get]), trivial⟩ ⟨(by first | rfl | (simp only [List.length_map]; rfl) | simp [PX.get]), (by first | rfl | (simp only [List.length_map]; rfl) | simp [PX.get]), trivial⟩)⟩
            · rw [decide_eq_false hx1]
              conv => whnf
              refine arith_in (wrap_i64 (by (try dsimp only); omega)) ?_
              conv => whnf
              exact ⟨false, ⟨by simp at hl1; omega, by omega, by rw [htk, cov_app]; exact ⟨fun h => absurd h (by simp), fun h => absurd h (by rintro (h | h); exact hnb h; exact hx1 h.1)⟩⟩, (Wk.sub ⟨(by first | rfl | (simp only [List.length_map]; rfl) | simp [PX.get]), (by first | rfl | (simp only [List.length_map]; rfl) | simp [PX.get]), (by first | rfl | (simp only [List.length_map]; rfl) | simp [PX.get]), (by first | rfl | (simp only [List.length_map]; rfl) | simp [PX.get]), (by first | rfl | (simp only [List.length_map]; rfl) | simp [PX.get]), (by first | rfl | (simp only [List.length_map]; rfl) | simp [PX.get]), (by first | rfl | (simp only [List.length_map]; rfl) | simp [PX.get]), (by first | rfl | (simp only [List.length_map]; rfl) | simp [PX.get]), (by first | rfl | (simp only [List.length_map]; rfl) | simp [PX.get]), trivial⟩ ⟨(by first | rfl | (simp only [List.length_map]; rfl) | simp [PX.get]), (by first | rfl | (simp only [List.length_map]; rfl) | simp [PX.get]), trivial⟩)⟩
        · obtain ⟨y, hy⟩ : ∃ y, (s :: r)[i - 1]? = some y := ⟨(s :: r)[i - 1], List.getElem?_eq_getElem (by omega)⟩
          have hg := hasc.gap (i := i - 1) hy (by rw [show i - 1 + 1 = i by omega]; exact hx)
          have hy2 := hasc.get hy
          rw [decide_eq_true (show (0 : Int) < (i : Int) by omega)]
          conv => whnf
          refine elemK_nat hx ?_
          conv => whnf
          refine arith_to (((i - 1 : Nat) : Int)) (by (try dsimp only); omega) (wrap_i64 (by (try dsimp only); omega)) ?_
          conv => whnf
          refine elemK_nat hy ?_
          conv => whnf
          refine arith_in (wrap_i64 (by (try dsimp only); omega)) ?_
          conv => whnf
          refine brk_i (fun h => absurd h (by simp; omega)) (fun _ => ?_)
          conv => whnf
          cases b with
          | true =>
            conv => whnf
            refine arith_in (wrap_i64 (by (try dsimp only); omega)) ?_
            conv => whnf
            exact ⟨true, ⟨by simp at hl1; omega, by simp at hi hlen; omega, by rw [htk, cov_app]; exact ⟨fun _ => .inl (hb.1 rfl), fun _ => rfl⟩⟩, (Wk.sub ⟨(by first | rfl | (simp only [List.length_map]; rfl) | simp [PX.get]), (by first | rfl | (simp only [List.length_map]; rfl) | simp [PX.get]), (by first | rfl | (simp only [List.length_map]; rfl) | simp [PX.get]), (by first | rfl | (simp only [List.length_map]; rfl) | simp [PX.get]), (by first | rfl | (simp only [List.length_map]; rfl) | simp [PX.get]), (by first | rfl | (simp only [List.length_map]; rfl) | simp [PX.get]), (by first | rfl | (simp only [List.length_map]; rfl) | simp [PX.get]), (by first | rfl | (simp only [List.length_map]; rfl) | simp [PX.get]), (by first | rfl | (simp only [List.length_map]; rfl) | simp [PX.get]), trivial⟩ ⟨(by first | rfl | (simp only [List.length_map]; rfl) | simp [PX.get]), (by first | rfl | (simp only [List.length_map]; rfl) | simp [PX.get]), trivial⟩)⟩
          | false =>
            have hnb : ¬ Cov a ((s :: r).take i) := fun h => by have := hb.2 h; cases this
            conv => whnf
            refine elemK_nat hx ?_
            conv => whnf
            by_cases hx1 : x.lo ≤ a
            · rw [decide_eq_true hx1]
              conv => whnf
              refine elemK_nat hx ?_
              conv => whnf
              refine arith_in (wrap_i64 (by (try dsimp only); omega)) ?_
              conv => whnf
              exact ⟨decide (a ≤ x.hi), ⟨by simp at hl1; omega, by simp at hi hlen; omega, by rw [htk, cov_app]; simp only [hx1, true_and]; exact ⟨fun h => .inr (of_decide_eq_true h), fun h => decide_eq_true (h.resolve_left hnb)⟩⟩, (Wk.sub ⟨(by first | rfl | (simp only [List.length_map]; rfl) | simp [PX.get]), (by first | rfl | (simp only [List.length_map]; rfl) | simp [PX.get]), (by first | rfl | (simp only [List.length_map]; rfl) | simp [PX.get]), (by first | rfl | (simp only [List.length_map]; rfl) | simp [PX.get]), (by first | rfl | (simp only [List.length_map]; rfl) | simp [PX.get]), (by first | rfl | (simp only [List.length_map]; rfl) | simp [PX.get]), (by first | rfl | (simp only [List.length_map]; rfl) | simp [PX.get]), (by first | rfl | (simp only [List.length_map]; rfl) | simp [PX.get]), (by first | rfl | (simp only [List.length_map]; rfl) | simp [PX.get]), trivial⟩ ⟨(by first | rfl | (simp only [List.length_map]; rfl) | simp [PX.get]), (by first | rfl | (simp only [List.length_map]; rfl) | simp [PX.get]), trivial⟩)⟩
            · rw [decide_eq_false hx1]
              conv => whnf
              refine arith_in (wrap_i64 (by (try dsimp only); omega)) ?_
              conv => whnf
              exact ⟨false, ⟨by simp at hl1; omega, by simp at hi hlen; omega, by rw [htk, cov_app]; exact ⟨fun h => absurd h (by simp), fun h => absurd h (by rintro (h | h); exact hnb h; exact hx1 h.1)⟩⟩, (Wk.sub ⟨(by first | rfl | (simp only [List.length_map]; rfl) | simp [PX.get]), (by first | rfl | (simp only [List.length_map]; rfl) | simp [PX.get]), (by first | rfl | (simp only [List.length_map]; rfl) | simp [PX.get]), (by first | rfl | (simp only [List.length_map]; rfl) | simp [PX.get]), (by first | rfl | (simp only [List.length_map]; rfl) | simp [PX.get]), (by first | rfl | (simp only [List.length_map]; rfl) | simp [PX.get]), (by first | rfl | (simp only [List.length_map]; rfl) | simp [PX.get]), (by first | rfl | (simp only [List.length_map]; rfl) | simp [PX.get]), (by first | rfl | (simp only [List.length_map]; rfl) | simp [PX.get]), trivial⟩ ⟨(by first | rfl | (simp only [List.length_map]; rfl) | simp [PX.get]), (by first | rfl | (simp only [List.length_map]; rfl) | simp [PX.get]), trivial⟩)⟩
      · intro b ⟨_, _, hb⟩
        rw [List.take_length, hc] at hb
        have hs1 := hasc.1
        have hsN := hN s (by simp)
        have hs2 := hasc.2.1
        have hk : (breakF c (thickL c) s.lo).1 = 0 := ((hcov s.lo).1 ⟨s, by simp, Int.le_refl _, hs2⟩).2.2
        have hbk : b = decide ((breakF c (thickL c) a).1 = 0) := by
          rw [Bool.eq_iff_iff, hb, decide_eq_true_eq]
          constructor
          · exact fun h => h.2.2
          · exact fun h => ⟨by omega, by omega, h⟩
        subst hbk
        conv => whnf
        refine brk_i (fun h => absurd h (by simp)) (fun _ => ?_)
        conv => whnf
        rw [self_t]
        conv => whnf
        rw [decide_eq_false (show ¬ s.lo < 1 by omega)]
        conv => whnf
        rw [decide_eq_false (show ¬ linksF c.chain.shots < s.lo by omega)]
        conv => whnf
        refine brk_i (fun h => absurd h (by simp)) (fun _ => ?_)
        conv => whnf
        refine CallA_v (ds := [c.d, i64 s.lo]) (fn25 c s.lo) rfl rfl ?_
        rw [whyE_in hR he (out := s.lo) (by omega), hk]
        conv => whnf
        refine brk_i (fun h2 => ?_) (fun h2 => ?_)
        · conv => whnf
          refine CallA_v (fn22) rfl rfl ?_
          conv => whnf
          exact RetA_view 0 rfl ⟨⟨rfl, rfl⟩, rfl⟩
        · have h2 : ¬ s.lo = 1 := by simpa using h2
          have ht2 : 0 ≤ p1.tmod (s.lo - 1) ∧ p1.tmod (s.lo - 1) < s.lo - 1 := by
            rw [Int.tmod_eq_emod_of_nonneg h1.1]
            exact ⟨Int.emod_nonneg _ (by omega), Int.emod_lt_of_pos _ (by omega)⟩
          conv => whnf
          refine arith_in (wrap_i64 (by (try dsimp only); omega)) ?_
          conv => whnf
          refine arith_in (wrap_i64 (by (try dsimp only); omega)) ?_
          conv => whnf
          refine chk_i (by simp; omega) ?_
          conv => whnf
          refine arith_in (wrap_i64 (by (try dsimp only); omega)) ?_
          conv => whnf
          have hk2 : (breakF c (thickL c) (1 + p1.tmod (s.lo - 1))).1 ≠ 0 := fun h => by
            obtain ⟨z, hz, hz1, _⟩ := (hcov (1 + p1.tmod (s.lo - 1))).2 ⟨by omega, by omega, h⟩
            rcases List.mem_cons.1 hz with rfl | hz
            · omega
            · obtain ⟨n, hn⟩ := List.mem_iff_getElem?.1 hz
              have := hasc.2.2.get hn
              omega
          refine DrawCall_v (ds := [c.d, i64 (1 + p1.tmod (s.lo - 1))]) (fn25 c (1 + p1.tmod (s.lo - 1))) rfl rfl ?_
          rw [whyE_in hR he (out := 1 + p1.tmod (s.lo - 1)) (by omega)]
          conv => whnf
          rw [decide_eq_false hk2]
          conv => whnf
          refine CallA_v (fn22) rfl rfl ?_
          conv => whnf
          exact RetA_view 0 rfl ⟨⟨rfl, rfl⟩, rfl⟩
  · have e1 : shortE c = (0, soundAll c) := by unfold shortE; rw [if_neg (show ¬ lookE c (checkC c).2.2 = 0 from he)]; rfl
    have e2 : scopesE c = ([], soundAll c) := by unfold scopesE; rw [if_neg (show ¬ lookE c (checkC c).2.2 = 0 from he)]; rfl
    rw [e1, e2]
    refine brk_i (fun _ => ?_) (fun h => absurd h (by simpa using he))
    conv => whnf
    rw [self_t]
    conv => whnf
    rw [self_t]
    conv => whnf
    refine CallA_v (fn22) rfl rfl ?_
    conv => whnf
    exact RetA_view 0 rfl ⟨⟨rfl, rfl⟩, rfl⟩
end Go.PX
