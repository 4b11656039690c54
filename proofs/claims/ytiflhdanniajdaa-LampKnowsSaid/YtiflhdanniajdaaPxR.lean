import Derived.Test.YtiflhdanniajdaaPxQ
set_option linter.all false
set_option maxRecDepth 10000
namespace Go.PX
open Go.Proofs

/- Lamp: the reference: At. -/

theorem atK_code {s : Int} : ∀ {l : List (LTruth × List Bool)} {a b : Bool}, l.foldl (atStep s) (codeW a b) = codeW (a || l.any fun p => !(p.2.getD s.toNat false)) (b || l.any fun p => p.2.getD s.toNat false)
  | [], a, b => by simp
  | p :: r, a, b => by
    rw [List.foldl_cons]
    have h1 : atStep s (codeW a b) p = codeW (a || !(p.2.getD s.toNat false)) (b || p.2.getD s.toNat false) := codeW_or a b _
    rw [h1, atK_code]
    simp only [List.any_cons, Bool.or_assoc]

theorem atK_eq (l : List (LTruth × List Bool)) (s : Int) : atK l s = codeW (l.any fun p => !(p.2.getD s.toNat false)) (l.any fun p => p.2.getD s.toNat false) := by
  have h := atK_code (s := s) (l := l) (a := false) (b := false)
  rw [Bool.false_or, Bool.false_or] at h
  exact h

/-- How many are lit. -/
def litN (s : Int) (l : List (List Bool)) : Nat := (l.filter fun r => r.getD s.toNat false).length

theorem litN_cons (s : Int) (x : List Bool) (r : List (List Bool)) : litN s (x :: r) = if x.getD s.toNat false then litN s r + 1 else litN s r := by
  unfold litN
  rw [List.filter_cons]
  split <;> simp

theorem litN_le (s : Int) (l : List (List Bool)) : litN s l ≤ l.length := List.length_filter_le _ _

theorem litN_zero {s : Int} : ∀ {l : List (List Bool)}, litN s l = 0 ↔ (l.any fun r => r.getD s.toNat false) = false
  | [] => by simp [litN]
  | x :: r => by
    rw [litN_cons, List.any_cons]
    cases h : x.getD s.toNat false with
    | true => simp
    | false => simpa using litN_zero (s := s) (l := r)

theorem litN_all {s : Int} : ∀ {l : List (List Bool)}, litN s l = l.length ↔ (l.any fun r => !(r.getD s.toNat false)) = false
  | [] => by simp [litN]
  | x :: r => by
    have hle := litN_le s r
    rw [litN_cons, List.any_cons]
    cases h : x.getD s.toNat false with
    | true => simpa using litN_all (s := s) (l := r)
    | false =>
      simp only [Bool.false_eq_true, if_false, List.length_cons, Bool.not_false, Bool.true_or]
      constructor
      · intro h2; omega
      · intro h2; cases h2

/-- What At says, by how many are lit. -/
def atN (s : Int) (l : List (List Bool)) : Int := if litN s l = 0 then 0 else if litN s l = l.length then 1 else 2

theorem at_same {s : Int} {l : List (LTruth × List Bool)} (h : l ≠ []) : atK l s ≠ 0 ∧ (if atK l s = 1 then (0 : Int) else if atK l s = 2 then 1 else 2) = atN s (l.map (·.2)) := by
  have h1 := litN_zero (s := s) (l := l.map (·.2))
  have h2 := litN_all (s := s) (l := l.map (·.2))
  rw [List.any_map] at h1 h2
  have e1 : (l.any ((fun r => r.getD s.toNat false) ∘ fun p => p.2)) = l.any fun p => p.2.getD s.toNat false := rfl
  have e2 : (l.any ((fun r => !(r.getD s.toNat false)) ∘ fun p => p.2)) = l.any fun p => !(p.2.getD s.toNat false) := rfl
  rw [e1] at h1
  rw [e2] at h2
  rw [atK_eq]
  unfold atN
  cases ha : l.any fun p => !(p.2.getD s.toNat false) <;> cases hb : l.any fun p => p.2.getD s.toNat false
  · exfalso
    cases l with
    | nil => exact h rfl
    | cons p r =>
      rw [List.any_cons, Bool.or_eq_false_iff] at ha hb
      rw [hb.1] at ha
      simp at ha
  · have h3 : ¬ litN s (l.map (·.2)) = 0 := fun e => by have := h1.1 e; rw [hb] at this; cases this
    have h4 : litN s (l.map (·.2)) = (l.map (·.2)).length := h2.2 ha
    rw [if_neg h3, if_pos h4]
    decide
  · have h3 : litN s (l.map (·.2)) = 0 := h1.2 hb
    rw [if_pos h3]
    decide
  · have h3 : ¬ litN s (l.map (·.2)) = 0 := fun e => by have := h1.1 e; rw [hb] at this; cases this
    have h4 : ¬ litN s (l.map (·.2)) = (l.map (·.2)).length := fun e => by have := h2.1 e; rw [ha] at this; cases this
    rw [if_neg h3, if_neg h4]
    decide

set_option maxHeartbeats 1000000 in
theorem la26 (c : LCase) (s : Int) : FnV Try.prog 26 [c.d, i64 s] (.tup [i64 (atV c s), i64 (atE c s)]) := by
  refine fnV_of mixed tysOk Try.func26 rfl (ft := ft26) 2 (by decide +kernel) (by rfl) fun {σ} Y st => ?_
  conv => whnf
  refine CallA_v (la16 c) rfl rfl ?_
  conv => whnf
  by_cases h0 : (checkL c).2.2 = 0
  case neg =>
    have he : atE c s = (checkL c).2.2 := by unfold atE; rw [if_neg h0]
    have hv : atV c s = 0 := by unfold atV; rw [he, if_neg h0]
    rw [he, hv]
    rw [show decide ((checkL c).2.2 = 0) = false from decide_eq_false h0]
    conv => whnf
    refine brk_i (fun _ => ?_) (fun h1 => absurd h1 (by simp [h0]))
    conv => whnf
    exact RetA_view 0 rfl ⟨⟨rfl, rfl⟩, rfl⟩
  have hR := checkL_ok h0
  have hn := hR.lamp.night
  rw [show decide ((checkL c).2.2 = 0) = true from decide_eq_true h0]
  conv => whnf
  refine arith_in (wrap_i64 (by (try dsimp only); omega)) ?_
  conv => whnf
  refine CallA_v (fn55 s 0 (c.lamp.night - 1)) rfl rfl ?_
  conv => whnf
  by_cases h1 : inB s 0 (c.lamp.night - 1) = true
  case neg =>
    have he : atE c s = 7 := by unfold atE; rw [if_pos h0, if_neg h1]
    have hv : atV c s = 0 := by unfold atV; rw [he]; rfl
    rw [he, hv]
    have h1 : inB s 0 (c.lamp.night - 1) = false := by simpa using h1
    rw [h1]
    conv => whnf
    exact RetA_view 0 rfl ⟨⟨rfl, rfl⟩, rfl⟩
  have he : atE c s = if atK (agL c) s = 0 then 9 else 0 := by unfold atE; rw [if_pos h0, if_pos h1]
  have hv : atV c s = if (if atK (agL c) s = 0 then (9 : Int) else 0) = 0 then (if atK (agL c) s = 1 then 0 else if atK (agL c) s = 2 then 1 else 2) else 0 := by unfold atV; rw [he]
  rw [he, hv]
  rw [h1]
  rw [inB_iff] at h1
  conv => whnf
  refine brk_i (fun h2 => absurd h2 (by simp [h0])) (fun _ => ?_)
  conv => whnf
  refine CallA_v (la78' c h0) rfl rfl ?_
  conv => whnf
  have hlit : ∀ p ∈ agL c, p.2.length = c.lamp.night.toNat := fun p hp => (agL_ok h0 hp).2.2
  have hlen := agL_len h0
  generalize agL c = L at hlit hlen
  refine brk_i (fun h2 => ?_) (fun h2 => ?_)
  · have h2 : L = [] := by simpa using h2
    subst h2
    have hk : atK [] s = 0 := rfl
    rw [hk]
    conv => whnf
    exact RetA_view 0 rfl ⟨⟨rfl, rfl⟩, rfl⟩
  have h2 : L ≠ [] := by simpa using h2
  obtain ⟨h3, h4⟩ := at_same (s := s) h2
  rw [if_neg h3, if_pos rfl, h4]
  have hlit : ∀ r ∈ L.map (·.2), r.length = c.lamp.night.toNat := fun r hr => by
    obtain ⟨p, hp, rfl⟩ := List.mem_map.1 hr
    exact hlit p hp
  have hlen : (L.map (·.2)).length ≤ 2000 := by simpa using hlen
  conv => whnf
  generalize L.map (·.1) = T0
  have hne : L.map (·.2) ≠ [] := by simpa using h2
  clear h2 h3 h4
  generalize L.map (·.2) = S at hlit hlen hne
  refine LoopA_i (T := tys) tysOk (by exact drawsB_spec mixed tysOk (by decide +kernel)) S (fun i (n : Nat) => ⟨[(1, .d (i64 s)), (10, .d (litsD S)), (11, .d (i64 n)), (12, .d (i64 i))], [], st⟩) (fun i r n => litN s S = n + litN s r ∧ n ≤ i) 0 (Wk.sub ⟨(by first | rfl | (simp only [List.length_map]; rfl) | simp [PX.get]), (by first | rfl | (simp only [List.length_map]; rfl) | simp [PX.get]), (by first | rfl | (simp only [List.length_map]; rfl) | simp [PX.get]), (by first | rfl | (simp only [List.length_map]; rfl) | simp [PX.get]), trivial⟩ trivial) ⟨by simp, Nat.le_refl _⟩ ?_ ?_
  · intro i x r n hx hi hr ⟨hb, hni⟩
    rw [litN_cons] at hb
    have hxl := hlit x (List.mem_of_getElem? hx)
    have hlt : s.toNat < x.length := by omega
    obtain ⟨b, hb2⟩ : ∃ b, x[s.toNat]? = some b := ⟨_, List.getElem?_eq_getElem hlt⟩
    have hg : x.getD s.toNat false = b := by simp [List.getD_eq_getElem?_getD, hb2]
    rw [hg] at hb
    conv => whnf
    refine brk_i (fun _ => ?_) (fun h => absurd hi (by simpa using h))
    conv => whnf
    refine elemK_nat hx ?_
    conv => whnf
    refine elemK_i [.bool b] ⟨h1.1, by simp [hb2]⟩ ?_
    conv => whnf
    cases b with
    | true =>
      rw [if_pos rfl] at hb
      conv => whnf
      refine arith_to (((n + 1 : Nat) : Int)) (by (try dsimp only); omega) (wrap_i64 (by (try dsimp only); omega)) ?_
      conv => whnf
      refine arith_in (wrap_i64 (by (try dsimp only); omega)) ?_
      conv => whnf
      exact ⟨n + 1, ⟨by omega, by omega⟩, (Wk.sub ⟨(by first | rfl | (simp only [List.length_map]; rfl) | simp [PX.get]), (by first | rfl | (simp only [List.length_map]; rfl) | simp [PX.get]), (by first | rfl | (simp only [List.length_map]; rfl) | simp [PX.get]), (by first | rfl | (simp only [List.length_map]; rfl) | simp [PX.get]), trivial⟩ trivial)⟩
    | false =>
      rw [if_neg (by simp)] at hb
      conv => whnf
      refine arith_in (wrap_i64 (by (try dsimp only); omega)) ?_
      conv => whnf
      exact ⟨n, ⟨hb, by omega⟩, (Wk.sub ⟨(by first | rfl | (simp only [List.length_map]; rfl) | simp [PX.get]), (by first | rfl | (simp only [List.length_map]; rfl) | simp [PX.get]), (by first | rfl | (simp only [List.length_map]; rfl) | simp [PX.get]), (by first | rfl | (simp only [List.length_map]; rfl) | simp [PX.get]), trivial⟩ trivial)⟩
  · intro n ⟨hb, _⟩
    have hb : litN s S = n := by simpa [litN] using hb
    unfold atN
    rw [hb]
    conv => whnf
    refine brk_i (fun h => absurd h (by simp)) (fun _ => ?_)
    conv => whnf
    refine brk_i (fun h5 => ?_) (fun h5 => ?_)
    · have h5 : n = 0 := by simpa using h5
      rw [if_pos h5]
      conv => whnf
      exact RetA_view 0 rfl ⟨⟨rfl, rfl⟩, rfl⟩
    have h5 : ¬ n = 0 := by simpa using h5
    rw [if_neg h5]
    conv => whnf
    refine brk_i (fun h6 => ?_) (fun h6 => ?_)
    · have h6 : n = S.length := by have := of_decide_eq_true h6; simp at this; omega
      rw [if_pos h6]
      conv => whnf
      exact RetA_view 0 rfl ⟨⟨rfl, rfl⟩, rfl⟩
    · have h6 : ¬ n = S.length := by have := of_decide_eq_false h6; simp at this; omega
      rw [if_neg h6]
      conv => whnf
      exact RetA_view 0 rfl ⟨⟨rfl, rfl⟩, rfl⟩
end Go.PX

namespace Go.PX
open Go.Proofs

/- Lamp: the reference: less, Wrong. -/

theorem la88 (a b : List Int) (ha : a.length < 1000000) (hb : b.length < 1000000) : FnV Try.prog 88 [intsD a, intsD b] (.bool (decide (cmpW a b < 0))) := by
  refine fnV_of mixed tysOk Try.func88 rfl (ft := ft88) 2 (by decide +kernel) (by rfl) fun {σ} Y st => ?_
  conv => whnf
  unfold cmpW
  refine brk_i (fun h1 => ?_) (fun h1 => ?_)
  · have h1 : ¬ a.length = b.length := by simp at h1; omega
    rw [if_neg h1]
    conv => whnf
    refine RetA_view 0 rfl ⟨⟨?_, rfl⟩, rfl⟩
    simp only [packD, List.length_map]
    congr 2
    rw [decide_eq_decide]
    omega
  have h1 : a.length = b.length := by simp at h1; omega
  rw [if_pos h1]
  conv => whnf
  refine LoopA_i (T := tys) tysOk (by exact drawsB_spec mixed tysOk (by decide +kernel)) a (fun i (_ : Unit) => ⟨[(0, .d (intsD a)), (1, .d (intsD b)), (5, .d (i64 i))], [], st⟩) (fun i r _ => compareL a b = compareL r (b.drop i)) () (Wk.sub ⟨(by first | rfl | (simp only [List.length_map]; rfl) | simp [PX.get]), (by first | rfl | (simp only [List.length_map]; rfl) | simp [PX.get]), (by first | rfl | (simp only [List.length_map]; rfl) | simp [PX.get]), trivial⟩ trivial) rfl ?_ ?_
  · intro i x r _ hx hi hr he
    have h2 : i < b.length := by omega
    obtain ⟨y, hy⟩ : ∃ y, b[i]? = some y := ⟨_, List.getElem?_eq_getElem h2⟩
    have hd : b.drop i = y :: b.drop (i + 1) := by
      rw [List.drop_eq_getElem_cons h2]
      rw [List.getElem?_eq_getElem h2] at hy
      rw [Option.some.inj hy]
    rw [hd, compareL] at he
    conv => whnf
    refine brk_i (fun _ => ?_) (fun h => absurd hi (by simpa using h))
    conv => whnf
    refine elemK_nat hx ?_
    conv => whnf
    refine elemK_nat hy ?_
    conv => whnf
    refine brk_i (fun h3 => ?_) (fun h3 => ?_)
    · have h3 : ¬ x = y := by simpa using h3
      conv => whnf
      refine elemK_nat hx ?_
      conv => whnf
      refine elemK_nat hy ?_
      conv => whnf
      refine RetA_view 0 rfl ⟨⟨?_, rfl⟩, rfl⟩
      simp only [packD]
      congr 2
      rw [decide_eq_decide, he]
      by_cases h4 : x < y
      · simp [h4]
      · have h5 : x > y := by omega
        simp [h4, h5]
    · have h3 : x = y := by simpa using h3
      subst h3
      rw [if_neg (by omega), if_neg (by omega)] at he
      conv => whnf
      refine arith_in (wrap_i64 (by (try dsimp only); omega)) ?_
      conv => whnf
      exact ⟨(), he, (Wk.sub ⟨(by first | rfl | (simp only [List.length_map]; rfl) | simp [PX.get]), (by first | rfl | (simp only [List.length_map]; rfl) | simp [PX.get]), (by first | rfl | (simp only [List.length_map]; rfl) | simp [PX.get]), trivial⟩ trivial)⟩
  · intro _ he
    rw [List.drop_eq_nil_of_le (by omega), compareL] at he
    rw [he]
    conv => whnf
    refine brk_i (fun h => absurd h (by simp)) (fun _ => ?_)
    conv => whnf
    exact RetA_view 0 rfl ⟨⟨rfl, rfl⟩, rfl⟩

theorem allT_ne {c : LCase} (hR : CaseL c) : allT c.lamp c.windings ≠ [] := by
  have h1 := hR.lamp.start
  have h2 := hR.lamp.speed
  intro h
  have hT : TruthR c ⟨c.lamp.start.lo, List.replicate (c.windings.length + 1) c.lamp.speed.lo⟩ := by
    refine ⟨by simp only; omega, by simp, fun s hs => ?_⟩
    have := (List.mem_replicate.1 hs).2
    omega
  have := mem_allT.2 hT
  rw [h] at this
  cases this

def wrongT (c : LCase) (t : LTruth) : List Int := wrongF (courseL c.lamp c.windings t) c.sights 0

theorem wrongsL_eq {c : LCase} (h0 : (checkL c).2.2 = 0) : wrongsL c = (allT c.lamp c.windings).map (wrongT c) := by
  unfold wrongsL
  rw [allC_eq h0, List.map_map]
  rfl

set_option maxHeartbeats 1000000 in
theorem la28 (c : LCase) : FnV Try.prog 28 [c.d] (.tup [intsD (wrongV c), i64 (checkL c).2.2]) := by
  refine fnV_of mixed tysOk Try.func28 rfl (ft := ft28) 1 (by decide +kernel) (by rfl) fun {σ} Y st => ?_
  conv => whnf
  refine CallA_v (la16 c) rfl rfl ?_
  conv => whnf
  by_cases h0 : (checkL c).2.2 = 0
  case neg =>
    have hv : wrongV c = [] := by unfold wrongV; rw [if_neg h0]
    rw [hv]
    refine brk_i (fun _ => ?_) (fun h1 => absurd h1 (by simp [h0]))
    conv => whnf
    exact RetA_viewR 0 rfl rfl ⟨⟨rfl, rfl⟩, rfl⟩
  have hR := checkL_ok h0
  have hn := hR.lamp.night
  have hs8 := hR.sights
  have hv : wrongV c = match leastW ((allT c.lamp c.windings).map (wrongT c)) with | none => [] | some l => l := by
    unfold wrongV wrongO
    rw [if_pos h0, wrongsL_eq h0]
    first | done | rfl
  rw [hv]
  refine brk_i (fun h1 => absurd h1 (by simp [h0])) (fun _ => ?_)
  conv => whnf
  refine CallA_v (la86 c hR) rfl rfl ?_
  conv => whnf
  have hne := allT_ne hR
  have hlen := allT_len hR
  have hT : ∀ t ∈ allT c.lamp c.windings, TruthR c t := fun t ht => mem_allT.1 ht
  generalize allT c.lamp c.windings = L at hne hlen hT
  obtain ⟨t0, r0, rfl⟩ : ∃ t r, L = t :: r := by
    cases L with
    | nil => exact absurd rfl hne
    | cons t r => exact ⟨t, r, rfl⟩
  have hcall : ∀ t, TruthR c t → FnV Try.prog 87 [sightsD c.sights, boolsD (courseL c.lamp c.windings t)] (intsD (wrongT c t)) := fun t ht {σ} => la87 c.sights (courseL c.lamp c.windings t) (by omega) (fun s hs => by
    have h1 := hR.sight s hs
    have h2 := (courseL_len (w := c.windings) (t := t) hR.lamp).2.2
    omega)
  have hwl : ∀ t, (wrongT c t).length < 1000000 := fun t => by
    have := wrongF_len (lit := courseL c.lamp c.windings t) (l := c.sights) (i := 0)
    unfold wrongT
    omega
  have ht0 := hT t0 (by simp)
  obtain ⟨Wv, hWv⟩ : ∃ Wv, Wv = leastW ((t0 :: r0).map (wrongT c)) := ⟨_, rfl⟩
  rw [← hWv]
  conv => whnf
  refine DrawCall_v (la50 c.lamp c.windings t0 (CrsR.of hR ht0)) rfl rfl ?_
  conv => whnf
  refine DrawCall_v (hcall t0 ht0) rfl rfl ?_
  conv => whnf
  refine LoopA_p (T := tys) tysOk (by exact drawsB_spec mixed tysOk (by decide +kernel)) (α := Nat × List Int)
    (fun p => ⟨[(1, .ptr 1 0), (7, .d (truthsD (t0 :: r0))), (8, .d (intsD p.2)), (9, .d (i64 p.1))], [(1, .box (.dd c.cells))], st⟩)
    (fun p => 1 ≤ p.1 ∧ p.1 ≤ (t0 :: r0).length ∧ Wv = (((t0 :: r0).drop p.1).map (wrongT c)).foldl leastStep (some p.2) ∧ p.2.length < 1000000) (fun p => (t0 :: r0).length - p.1) (1, wrongT c t0) (Wk.sub ⟨(by first | rfl | (simp only [List.length_map]; rfl) | simp [PX.get]), (by first | rfl | (simp only [List.length_map]; rfl) | simp [PX.get]), (by first | rfl | (simp only [List.length_map]; rfl) | simp [PX.get]), (by first | rfl | (simp only [List.length_map]; rfl) | simp [PX.get]), trivial⟩ ⟨(by first | rfl | (simp only [List.length_map]; rfl) | simp [PX.get]), trivial⟩) ⟨Nat.le_refl _, by simp, hWv, hwl t0⟩ ?_
  rintro ⟨i, best⟩ ⟨h1, h2, h3, h4⟩
  simp only at h1 h2 h3 h4
  conv => whnf
  refine brk_i (fun h5 => ?_) (fun h5 => ?_)
  case refine_2 =>
    have h5 : ¬ i < (t0 :: r0).length := by have := of_decide_eq_false h5; simp at this; simp; omega
    rw [List.drop_eq_nil_of_le (by omega), List.map_nil, List.foldl_nil] at h3
    rw [h3]
    conv => whnf
    rw [h0]
    exact RetA_view 0 rfl ⟨⟨rfl, rfl⟩, rfl⟩
  have h5 : i < (t0 :: r0).length := by have := of_decide_eq_true h5; simp at this; simp; omega
  obtain ⟨t, ht⟩ : ∃ t, (t0 :: r0)[i]? = some t := ⟨_, List.getElem?_eq_getElem h5⟩
  have hd : (t0 :: r0).drop i = t :: (t0 :: r0).drop (i + 1) := by
    rw [List.drop_eq_getElem_cons h5]
    rw [List.getElem?_eq_getElem h5] at ht
    rw [Option.some.inj ht]
  rw [hd, List.map_cons, List.foldl_cons, leastStep] at h3
  have htR := hT t (List.mem_of_getElem? ht)
  conv => whnf
  refine elemK_nat ht ?_
  conv => whnf
  refine DrawCall_v (la50 c.lamp c.windings t (CrsR.of hR htR)) rfl rfl ?_
  conv => whnf
  refine DrawCall_v (hcall t htR) rfl rfl ?_
  conv => whnf
  refine CallA_v (la88 (wrongT c t) best (hwl t) h4) rfl rfl ?_
  conv => whnf
  refine brk_i (fun h6 => ?_) (fun h6 => ?_)
  · have h6 : cmpW (wrongT c t) best < 0 := by simpa using h6
    rw [if_pos h6] at h3
    conv => whnf
    refine arith_in (wrap_i64 (by (try dsimp only); omega)) ?_
    conv => whnf
    exact ⟨(i + 1, wrongT c t), by simp only; omega, ⟨by simp only; omega, by simp only; omega, h3, hwl t⟩, (Wk.sub ⟨(by first | rfl | (simp only [List.length_map]; rfl) | simp [PX.get]), (by first | rfl | (simp only [List.length_map]; rfl) | simp [PX.get]), (by first | rfl | (simp only [List.length_map]; rfl) | simp [PX.get]), (by first | rfl | (simp only [List.length_map]; rfl) | simp [PX.get]), trivial⟩ ⟨(by first | rfl | (simp only [List.length_map]; rfl) | simp [PX.get]), trivial⟩)⟩
  · have h6 : ¬ cmpW (wrongT c t) best < 0 := by simpa using h6
    rw [if_neg h6] at h3
    conv => whnf
    refine arith_in (wrap_i64 (by (try dsimp only); omega)) ?_
    conv => whnf
    exact ⟨(i + 1, best), by simp only; omega, ⟨by simp only; omega, by simp only; omega, h3, h4⟩, (Wk.sub ⟨(by first | rfl | (simp only [List.length_map]; rfl) | simp [PX.get]), (by first | rfl | (simp only [List.length_map]; rfl) | simp [PX.get]), (by first | rfl | (simp only [List.length_map]; rfl) | simp [PX.get]), (by first | rfl | (simp only [List.length_map]; rfl) | simp [PX.get]), trivial⟩ ⟨(by first | rfl | (simp only [List.length_map]; rfl) | simp [PX.get]), trivial⟩)⟩
end Go.PX

namespace Go.PX
open Go.Proofs

/- Lamp: the reference: Range. -/

def colF (v : Int) (l : List Int) : Span := l.foldl spreadS ⟨v, v⟩
def spAt (t : LTruth) (k : Nat) : Int := t.speeds.getD k 0

theorem spread_foldl_lo {l : List Int} : ∀ {s : Span} {v : Int}, (v ∈ l ∨ s.lo ≤ v ∧ v ≤ s.hi) → (l.foldl spreadS s).lo ≤ v ∧ v ≤ (l.foldl spreadS s).hi := by
  induction l with
  | nil => intro s v h; simpa using h
  | cons x r ih =>
    intro s v h
    rw [List.foldl_cons]
    refine ih ?_
    unfold spreadS
    rcases h with h | h
    · rcases List.mem_cons.1 h with rfl | h
      · right; simp only; omega
      · exact .inl h
    · right; simp only; omega

theorem spread_stay {l : List Int} : ∀ {s : Span}, (∀ v ∈ l, s.lo ≤ v ∧ v ≤ s.hi) → l.foldl spreadS s = s := by
  induction l with
  | nil => intro s _; rfl
  | cons x r ih =>
    intro s h
    rw [List.foldl_cons]
    have hx := h x (by simp)
    have : spreadS s x = s := by
      unfold spreadS
      cases s
      simp only at hx ⊢
      congr 1 <;> omega
    rw [this]
    exact ih fun v hv => h v (by simp [hv])

theorem zip_range {L : List Span} {sp : List Int} {n : Nat} (h1 : L.length = n) (h2 : sp.length = n) : List.zipWith spreadS L sp = (List.range n).map fun k => spreadS (L.getD k ⟨0, 0⟩) (sp.getD k 0) := by
  apply List.ext_getElem
  · simp; omega
  · intro i k1 k2
    have : i < n := by simpa using k2
    simp [List.getD_eq_getElem?_getD, h1, h2, this]

theorem map_range_getD {L : List Span} {n : Nat} (h1 : L.length = n) : ((List.range n).map fun k => L.getD k ⟨0, 0⟩) = L := by
  apply List.ext_getElem
  · simp; omega
  · intro i k1 k2
    simp [List.getD_eq_getElem?_getD, k2]

theorem range_fold {n : Nat} : ∀ {q : List (LTruth × List Bool)} {a : Span} {L : List Span}, L.length = n → (∀ p ∈ q, p.1.speeds.length = n) →
    q.foldl (fun acc p => rangeStep acc p.1) (some (a, L)) = some ((q.map fun p => p.1.start).foldl spreadS a, (List.range n).map fun k => (q.map fun p => spAt p.1 k).foldl spreadS (L.getD k ⟨0, 0⟩))
  | [], a, L, h1, _ => by
    simp only [List.foldl_nil, List.map_nil]
    rw [map_range_getD h1]
  | p :: r, a, L, h1, h2 => by
    have hp := h2 p (by simp)
    rw [List.foldl_cons]
    show r.foldl (fun acc p => rangeStep acc p.1) (some (spreadS a p.1.start, List.zipWith spreadS L p.1.speeds)) = _
    rw [range_fold (by simp; omega) (fun x hx => h2 x (by simp [hx]))]
    congr 2
    refine List.map_congr_left fun k hk => ?_
    have hk := List.mem_range.1 hk
    rw [List.map_cons, List.foldl_cons]
    congr 1
    rw [zip_range h1 hp]
    simp [List.getD_eq_getElem?_getD, hk, spAt]

/-- What Range says of truths that agree. -/
theorem rangeO_eq {p : LTruth × List Bool} {r : List (LTruth × List Bool)} {n : Nat} (h : ∀ x ∈ p :: r, x.1.speeds.length = n) :
    rangeO (p :: r) = some (colF p.1.start ((p :: r).map fun x => x.1.start), (List.range n).map fun k => colF (spAt p.1 k) ((p :: r).map fun x => spAt x.1 k)) := by
  have hp := h p (by simp)
  unfold rangeO
  rw [List.foldl_cons]
  show r.foldl (fun acc p => rangeStep acc p.1) (some (⟨p.1.start, p.1.start⟩, p.1.speeds.map fun n => (⟨n, n⟩ : Span))) = _
  rw [range_fold (n := n) (by simp [hp]) (fun x hx => h x (by simp [hx]))]
  congr 2
  · unfold colF
    rw [List.map_cons, List.foldl_cons, spread_self]
  · refine List.map_congr_left fun k hk => ?_
    have hk := List.mem_range.1 hk
    unfold colF
    rw [List.map_cons, List.foldl_cons, spread_self]
    congr 1
    have : k < p.1.speeds.length := by omega
    simp [List.getD_eq_getElem?_getD, this, spAt]

theorem map_fst {α β γ : Type} (l : List (α × β)) (f : α → γ) : (l.map fun p => f p.1) = (l.map (·.1)).map f := by simp [List.map_map, Function.comp_def]

set_option maxHeartbeats 2000000 in
theorem la24 (c : LCase) : FnV Try.prog 24 [c.d] (.tup [(rangeA c).d, spansD (rangeB' c), i64 (rangeE c)]) := by
  refine fnV_of mixed tysOk Try.func24 rfl (ft := ft24) 1 (by decide +kernel) (by rfl) fun {σ} Y st => ?_
  conv => whnf
  refine CallA_v (la16 c) rfl rfl ?_
  conv => whnf
  by_cases h0 : (checkL c).2.2 = 0
  case neg =>
    have he : rangeE c = (checkL c).2.2 := by unfold rangeE; rw [if_neg h0]
    have hv : rangeA c = ⟨0, 0⟩ := by unfold rangeA; rw [if_neg h0]
    have hb : rangeB' c = [] := by unfold rangeB'; rw [if_neg h0]
    rw [he, hv, hb]
    refine brk_i (fun _ => ?_) (fun h1 => absurd h1 (by simp [h0]))
    conv => whnf
    exact RetA_viewR 0 rfl rfl ⟨⟨rfl, rfl⟩, rfl⟩
  have hR := checkL_ok h0
  have he : rangeE c = match rangeO (agL c) with | none => 9 | some _ => 0 := by unfold rangeE; rw [if_pos h0]; first | done | rfl
  have hv : rangeA c = match rangeO (agL c) with | none => ⟨0, 0⟩ | some (a, _) => a := by unfold rangeA; rw [if_pos h0]; first | done | rfl
  have hb : rangeB' c = match rangeO (agL c) with | none => [] | some (_, l) => l := by unfold rangeB'; rw [if_pos h0]; first | done | rfl
  rw [he, hv, hb]
  refine brk_i (fun h1 => absurd h1 (by simp [h0])) (fun _ => ?_)
  conv => whnf
  refine CallA_v (la78' c h0) rfl rfl ?_
  conv => whnf
  have hsl : ∀ p ∈ agL c, p.1.speeds.length = c.windings.length + 1 := fun p hp => (agL_ok h0 hp).1.len
  have hlen := agL_len h0
  have hw := hR.winds
  generalize agL c = L at hsl hlen
  refine brk_i (fun h2 => ?_) (fun h2 => ?_)
  · have h2 : L = [] := by simpa using h2
    subst h2
    conv => whnf
    exact RetA_viewR 0 rfl rfl ⟨⟨rfl, rfl⟩, rfl⟩
  conv => whnf
  have h2 : L ≠ [] := by simpa using h2
  obtain ⟨p, r, hpr⟩ : ∃ p r, L = p :: r := by
    cases L with
    | nil => exact absurd rfl h2
    | cons p r => exact ⟨p, r, rfl⟩
  have hRo := rangeO_eq (p := p) (r := r) (by rw [← hpr]; exact hsl)
  rw [← hpr, map_fst L (fun t => t.start)] at hRo
  have hcol : (fun k => colF (spAt p.1 k) (L.map fun x => spAt x.1 k)) = fun k => colF (spAt p.1 k) ((L.map (·.1)).map fun t => spAt t k) := by
    funext k; rw [map_fst L (fun t => spAt t k)]
  rw [hcol] at hRo
  have hT : ∀ t ∈ L.map (·.1), t.speeds.length = c.windings.length + 1 := fun t ht => by
    obtain ⟨q, hq, rfl⟩ := List.mem_map.1 ht
    exact hsl q hq
  have h00 : (L.map (·.1))[0]? = some p.1 := by rw [hpr]; rfl
  have hTl : (L.map (·.1)).length ≤ 2000 := by simpa using hlen
  have hTp : 0 < (L.map (·.1)).length := by rw [hpr]; simp
  have ht0 := hT p.1 (List.mem_of_getElem? h00)
  have h000 : (0 : Int) ≤ 0 ∧ ((L.map (·.1)).map LTruth.cells)[Int.toNat 0]? = some p.1.cells := ⟨Int.le_refl 0, by rw [show Int.toNat 0 = 0 from rfl, List.getElem?_map, h00]; rfl⟩
  refine elemK_i p.1.cells h000 ?_
  conv => whnf
  refine elemK_i p.1.cells h000 ?_
  conv => whnf
  have hF : ∀ v ∈ (L.map (·.1)).map (fun t => t.start), (colF p.1.start ((L.map (·.1)).map fun t => t.start)).lo ≤ v ∧ v ≤ (colF p.1.start ((L.map (·.1)).map fun t => t.start)).hi := fun v hv => spread_foldl_lo (.inl hv)
  clear hcol hpr h2
  refine LoopA_p (T := tys) tysOk (by exact drawsB_spec mixed tysOk (by decide +kernel)) (α := Nat)
    (fun k => ⟨[(1, .ptr 1 0), (2, .ptr 2 0), (8, .d (truthsD (L.map (·.1)))), (10, .ptr 10 0), (11, .sl 114 2 0 k), (12, .d (i64 k))], [(1, .box (.dd c.cells)), (2, .box (.dd [i64 0, i64 0])), (10, .box (.dd (if k = 0 then Span.cells ⟨p.1.start, p.1.start⟩ else Span.cells (colF p.1.start ((L.map (·.1)).map fun t => t.start))))), (114, .arr 2 (.dd (((List.range k).map fun k => colF (spAt p.1 k) ((L.map (·.1)).map fun t => spAt t k)).map Span.cells)))], st⟩)
    (fun k => k ≤ c.windings.length + 1) (fun k => c.windings.length + 1 - k) 0 ((Wk.born 11 114 2 rfl rfl rfl).trans (Wk.sub ⟨(by first | rfl | (simp only [List.length_map]; rfl) | simp [PX.get]), (by first | rfl | (simp only [List.length_map]; rfl) | simp [PX.get]), (by first | rfl | (simp only [List.length_map]; rfl) | simp [PX.get]), (by first | rfl | (simp only [List.length_map]; rfl) | simp [PX.get]), (by first | rfl | (simp only [List.length_map]; rfl) | simp [PX.get]), (by first | rfl | (simp only [List.length_map]; rfl) | simp [PX.get]), trivial⟩ ⟨(by first | rfl | (simp only [List.length_map]; rfl) | simp [PX.get]), (by first | rfl | (simp only [List.length_map]; rfl) | simp [PX.get]), (by first | rfl | (simp only [List.length_map]; rfl) | simp [PX.get]), (by first | rfl | (simp only [List.length_map]; rfl) | simp [PX.get]), trivial⟩)) (Nat.zero_le _) ?_
  intro k hk
  conv => whnf
  refine brk_i (fun h1 => ?_) (fun h1 => ?_)
  case refine_2 =>
    have h1 : k = c.windings.length + 1 := by have := of_decide_eq_false h1; simp at this; omega
    subst h1
    rw [if_neg (by omega)]
    conv => whnf
    exact RetA_view 1 (ds := [Span.d (colF p.1.start ((L.map (·.1)).map fun t => t.start)), spansD ((List.range (c.windings.length + 1)).map fun k => colF (spAt p.1 k) ((L.map (·.1)).map fun t => spAt t k)), i64 0]) (viewL_cons rfl (viewL_cons (viewV_sl rfl (by simp)) rfl)) ⟨⟨by rw [hRo]; rfl, rfl⟩, rfl⟩
  have h1 : k ≤ c.windings.length := by have := of_decide_eq_true h1; simp at this; omega
  have hspg : ∀ t : LTruth, t.speeds.length = c.windings.length + 1 → (t.speeds.map fun n => [i64 n])[((k : Nat) : Int).toNat]? = some [i64 (spAt t k)] := fun t ht => by
    have : k < t.speeds.length := by omega
    rw [Int.toNat_natCast]
    simp [spAt, List.getD_eq_getElem?_getD, this]
  have hk0 : (0 : Int) ≤ ((k : Nat) : Int) := by omega
  have hs0 : ∃ s : Span, (if k = 0 then Span.cells ⟨p.1.start, p.1.start⟩ else Span.cells (colF p.1.start ((L.map (·.1)).map fun t => t.start))) = s.cells ∧ ((L.map (·.1)).map fun t => t.start).foldl spreadS s = colF p.1.start ((L.map (·.1)).map fun t => t.start) := by
    by_cases hk2 : k = 0
    · exact ⟨⟨p.1.start, p.1.start⟩, if_pos hk2, rfl⟩
    · exact ⟨_, if_neg hk2, spread_stay hF⟩
  obtain ⟨s0, hs0, hs1⟩ := hs0
  rw [hs0]
  conv => whnf
  refine elemK_i p.1.cells h000 ?_
  conv => whnf
  refine elemK_i [i64 (spAt p.1 k)] ⟨hk0, hspg p.1 ht0⟩ ?_
  conv => whnf
  refine elemK_i p.1.cells h000 ?_
  conv => whnf
  refine elemK_i [i64 (spAt p.1 k)] ⟨hk0, hspg p.1 ht0⟩ ?_
  conv => whnf
  refine LoopA_i (T := tys) tysOk (by exact drawsB_spec mixed tysOk (by decide +kernel)) (L.map (·.1)) (fun i (q : Span × Span) => ⟨[(1, .ptr 1 0), (2, .ptr 2 0), (8, .d (truthsD (L.map (·.1)))), (10, .ptr 10 0), (11, .sl 114 2 0 k), (12, .d (i64 k)), (13, .ptr 13 0), (14, .d (i64 i))], [(1, .box (.dd c.cells)), (2, .box (.dd [i64 0, i64 0])), (10, .box (.dd q.1.cells)), (13, .box (.dd q.2.cells)), (114, .arr 2 (.dd (((List.range k).map fun k => colF (spAt p.1 k) ((L.map (·.1)).map fun t => spAt t k)).map Span.cells)))], st⟩)
    (fun i r q => colF p.1.start ((L.map (·.1)).map fun t => t.start) = (r.map fun t => t.start).foldl spreadS q.1 ∧ colF (spAt p.1 k) ((L.map (·.1)).map fun t => spAt t k) = (r.map fun t => spAt t k).foldl spreadS q.2) (s0, ⟨spAt p.1 k, spAt p.1 k⟩) (Wk.sub ⟨(by first | rfl | (simp only [List.length_map]; rfl) | simp [PX.get]), (by first | rfl | (simp only [List.length_map]; rfl) | simp [PX.get]), (by first | rfl | (simp only [List.length_map]; rfl) | simp [PX.get]), (by first | rfl | (simp only [List.length_map]; rfl) | simp [PX.get]), (by first | rfl | (simp only [List.length_map]; rfl) | simp [PX.get]), (by first | rfl | (simp only [List.length_map]; rfl) | simp [PX.get]), (by first | rfl | (simp only [List.length_map]; rfl) | simp [PX.get]), (by first | rfl | (simp only [List.length_map]; rfl) | simp [PX.get]), trivial⟩ ⟨(by first | rfl | (simp only [List.length_map]; rfl) | simp [PX.get]), (by first | rfl | (simp only [List.length_map]; rfl) | simp [PX.get]), (by first | rfl | (simp only [List.length_map]; rfl) | simp [PX.get]), (by first | rfl | (simp only [List.length_map]; rfl) | simp [PX.get]), (by first | rfl | (simp only [List.length_map]; rfl) | simp [PX.get]), trivial⟩) ⟨hs1.symm, rfl⟩ ?_ ?_
  · rintro i t r ⟨a, b⟩ hx hi hr ⟨h2, h3⟩
    simp only [List.map_cons, List.foldl_cons] at h2 h3
    have ht := hT t (List.mem_of_getElem? hx)
    conv => whnf
    refine brk_i (fun _ => ?_) (fun h => absurd hi (by simpa using h))
    conv => whnf
    refine elemK_nat hx ?_
    conv => whnf
    refine elemK_i [i64 (spAt t k)] ⟨hk0, hspg t ht⟩ ?_
    conv => whnf
    refine elemK_nat hx ?_
    conv => whnf
    refine elemK_i [i64 (spAt t k)] ⟨hk0, hspg t ht⟩ ?_
    conv => whnf
    refine elemK_nat hx ?_
    conv => whnf
    refine elemK_nat hx ?_
    conv => whnf
    refine arith_in (wrap_i64 (by (try dsimp only); omega)) ?_
    conv => whnf
    exact ⟨(spreadS a t.start, spreadS b (spAt t k)), ⟨h2, h3⟩, (Wk.sub ⟨(by first | rfl | (simp only [List.length_map]; rfl) | simp [PX.get]), (by first | rfl | (simp only [List.length_map]; rfl) | simp [PX.get]), (by first | rfl | (simp only [List.length_map]; rfl) | simp [PX.get]), (by first | rfl | (simp only [List.length_map]; rfl) | simp [PX.get]), (by first | rfl | (simp only [List.length_map]; rfl) | simp [PX.get]), (by first | rfl | (simp only [List.length_map]; rfl) | simp [PX.get]), (by first | rfl | (simp only [List.length_map]; rfl) | simp [PX.get]), (by first | rfl | (simp only [List.length_map]; rfl) | simp [PX.get]), trivial⟩ ⟨(by first | rfl | (simp only [List.length_map]; rfl) | simp [PX.get]), (by first | rfl | (simp only [List.length_map]; rfl) | simp [PX.get]), (by first | rfl | (simp only [List.length_map]; rfl) | simp [PX.get]), (by first | rfl | (simp only [List.length_map]; rfl) | simp [PX.get]), (by first | rfl | (simp only [List.length_map]; rfl) | simp [PX.get]), trivial⟩)⟩
  · rintro ⟨a, b⟩ ⟨h2, h3⟩
    simp only [List.map_nil, List.foldl_nil] at h2 h3
    conv => whnf
    refine brk_i (fun h => absurd h (by simp)) (fun _ => ?_)
    conv => whnf
    refine ownK_whole rfl ?_
    conv => whnf
    refine ownK_whole (by simp [Els.len]) ?_
    conv => whnf
    refine chk_i (decide_eq_true (by
      show ((((List.range k).map fun k => colF (spAt p.1 k) ((L.map (·.1)).map fun t => spAt t k)).map Span.cells).length + 1) * 16 ≤ 140737488355328
      simp; omega)) ?_
    conv => whnf
    refine arith_in (wrap_i64 (by (try dsimp only); omega)) ?_
    conv => whnf
    refine ⟨k + 1, (by show c.windings.length + 1 - (k + 1) < c.windings.length + 1 - k; omega), (by show k + 1 ≤ c.windings.length + 1; omega), Wk.sub ⟨rfl, rfl, rfl, rfl, ?_, rfl, trivial⟩ ⟨rfl, rfl, ?_, ?_, trivial⟩⟩
    · simp [PX.get, Els.len]
    · rw [if_neg (by omega), h2]; rfl
    · rw [List.range_succ, List.map_append, List.map_append]
      simp [PX.get]
      rw [← List.map_map, h3]; rfl
end Go.PX

namespace Go.PX
open Go.Proofs

/- Lamp: LampKnows, walked. -/

theorem rangeB_len (c : LCase) : (rangeB' c).length < 1000000 := by
  unfold rangeB'
  split
  · rename_i h0
    have hR := checkL_ok h0
    have hsl : ∀ p ∈ agL c, p.1.speeds.length = c.windings.length + 1 := fun p hp => (agL_ok h0 hp).1.len
    have := hR.winds
    cases hL : agL c with
    | nil => simp [rangeO]
    | cons p r =>
      rw [hL] at hsl
      rw [rangeO_eq hsl]
      simp
      omega
  · simp

theorem wrongV_len (c : LCase) : (wrongV c).length < 1000000 := by
  unfold wrongV
  split
  · rename_i h0
    have hR := checkL_ok h0
    unfold wrongO
    have key : ∀ (l : List (List Int)) (o : Option (List Int)), (∀ x ∈ l, x.length ≤ 8) → (∀ x, o = some x → x.length ≤ 8) → ∀ x, l.foldl leastStep o = some x → x.length ≤ 8 := by
      intro l
      induction l with
      | nil => exact fun o _ h => h
      | cons y r ih =>
        intro o h1 h2
        rw [List.foldl_cons]
        refine ih _ (fun x hx => h1 x (by simp [hx])) ?_
        intro x hx
        unfold leastStep at hx
        cases o with
        | none => cases hx; exact h1 _ (by simp)
        | some z =>
          simp only at hx
          split at hx
          · cases hx; exact h1 _ (by simp)
          · exact h2 x hx
    cases hX : leastW (wrongsL c) with
    | none => simp
    | some x =>
      have := key (wrongsL c) none (fun y hy => by
        obtain ⟨p, _, rfl⟩ := List.mem_map.1 hy
        have h1 := wrongF_len (lit := p.2) (l := c.sights) (i := 0)
        have h2 := hR.sights
        omega) (fun y h => by cases h) x hX
      simp only
      omega
  · simp

set_option maxHeartbeats 1000000 in
theorem la4 (c : LCase) (s : Int) : FnV Try.prog 4 [c.d, i64 s] (.bool true) := by
  refine fnV_of mixed tysOk Try.func4 rfl (ft := ft4) 2 (by decide +kernel) (by rfl) fun {σ} Y st => ?_
  conv => whnf
  refine CallA_v (la23 c) rfl rfl ?_
  conv => whnf
  refine CallA_v (la24 c) rfl rfl ?_
  conv => whnf
  rw [show (!(decide ((rangeA c).lo = (rangeA c).lo) && (decide ((rangeA c).hi = (rangeA c).hi) && true))) = false by simp]
  conv => whnf
  refine CallA_v (fn45 (rangeB' c) (rangeB' c) (rangeB_len c)) rfl rfl ?_
  conv => whnf
  rw [show (!decide (rangeB' c = rangeB' c)) = false by simp]
  conv => whnf
  rw [show (!decide (rangeE c = rangeE c)) = false by simp]
  conv => whnf
  refine CallA_v (la25 c s) rfl rfl ?_
  conv => whnf
  refine CallA_v (la26 c s) rfl rfl ?_
  conv => whnf
  rw [show (!decide (atV c s = atV c s)) = false by simp]
  conv => whnf
  rw [show (!decide (atE c s = atE c s)) = false by simp]
  conv => whnf
  refine CallA_v (la27 c) rfl rfl ?_
  conv => whnf
  refine CallA_v (la28 c) rfl rfl ?_
  conv => whnf
  refine CallA_v (fn19 (wrongV c) (wrongV c) (wrongV_len c)) rfl rfl ?_
  conv => whnf
  rw [show decide (wrongV c = wrongV c) = true by simp]
  conv => whnf
  rw [show decide ((checkL c).2.2 = (checkL c).2.2) = true by simp]
  conv => whnf
  refine CallA_v (la22) rfl rfl ?_
  conv => whnf
  exact RetA_view 0 rfl ⟨⟨rfl, rfl⟩, rfl⟩
end Go.PX
