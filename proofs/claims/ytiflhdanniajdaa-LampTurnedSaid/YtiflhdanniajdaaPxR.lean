import Derived.Test.YtiflhdanniajdaaPxQ
import Derived.Test.YtiflhdanniajdaaPxP
set_option linter.all false
set_option maxRecDepth 10000
namespace Go.PX
open Go.Proofs

/- Lamp: the reference: Agree; it has the program's truths. -/

def litsD (l : List (List Bool)) : D := .vs (l.map fun r => [boolsD r])

def agR (c : LCase) (l : List LTruth) : List (LTruth × List Bool) := (l.map fun t => (t, courseL c.lamp c.windings t)).filter fun p => decide (wrongF p.2 c.sights 0 = [])

def agreeRD (l : List (LTruth × List Bool)) : D := .tup [truthsD (l.map (·.1)), litsD (l.map (·.2))]

theorem agR_cons (c : LCase) (t : LTruth) (r : List LTruth) : agR c (t :: r) = if wrongF (courseL c.lamp c.windings t) c.sights 0 = [] then (t, courseL c.lamp c.windings t) :: agR c r else agR c r := by
  unfold agR
  rw [List.map_cons, List.filter_cons]
  by_cases h : wrongF (courseL c.lamp c.windings t) c.sights 0 = []
  · simp [h]
  · simp [h]

set_option maxHeartbeats 1000000 in
theorem la78 (c : LCase) (hR : CaseL c) : FnV Try.prog 78 [c.d] (agreeRD (agR c (allT c.lamp c.windings))) := by
  refine fnV_of mixed tysOk Try.func78 rfl (ft := ft78) 1 (by decide +kernel) (by rfl) fun {σ} Y st => ?_
  conv => whnf
  refine CallA_v (la86 c hR) rfl rfl ?_
  conv => whnf
  have hlen := allT_len hR
  have hT : ∀ t ∈ allT c.lamp c.windings, TruthR c t := fun t ht => mem_allT.1 ht
  generalize allT c.lamp c.windings = L at hlen hT
  have hn := hR.lamp.night
  have hs8 := hR.sights
  refine LoopA_i (T := tys) tysOk (by exact drawsB_spec mixed tysOk (by decide +kernel)) L (fun i (acc : List (LTruth × List Bool)) => ⟨[(1, .ptr 1 0), (4, .d (truthsD L)), (5, .sl 38 2 0 acc.length), (6, .sl 42 1 0 acc.length), (7, .d (i64 i))], [(1, .box (.dd c.cells)), (38, .arr 2 (.dd (acc.map fun p => p.1.cells))), (42, .arr 1 (.dd (acc.map fun p => [boolsD p.2])))], st⟩)
    (fun i r acc => agR c L = acc ++ agR c r ∧ acc.length ≤ i ∧ ∀ t ∈ r, TruthR c t) [] ((Wk.born 5 38 2 rfl rfl rfl).trans ((Wk.born 6 42 1 rfl rfl rfl).trans (Wk.sub ⟨(by first | rfl | (simp only [List.length_map]; rfl) | simp [PX.get]), (by first | rfl | (simp only [List.length_map]; rfl) | simp [PX.get]), (by first | rfl | (simp only [List.length_map]; rfl) | simp [PX.get]), (by first | rfl | (simp only [List.length_map]; rfl) | simp [PX.get]), (by first | rfl | (simp only [List.length_map]; rfl) | simp [PX.get]), trivial⟩ ⟨(by first | rfl | (simp only [List.length_map]; rfl) | simp [PX.get]), (by first | rfl | (simp only [List.length_map]; rfl) | simp [PX.get]), (by first | rfl | (simp only [List.length_map]; rfl) | simp [PX.get]), trivial⟩))) ⟨rfl, by simp, hT⟩ ?_ ?_
  · intro i t r acc hx hi hr ⟨he, hal, hTr⟩
    rw [agR_cons] at he
    have ht := hTr t (by simp)
    have hrest : ∀ t ∈ r, TruthR c t := fun t ht => hTr t (by simp [ht])
    obtain ⟨k1, k2, k3⟩ := courseL_len (w := c.windings) (t := t) hR.lamp
    conv => whnf
    refine brk_i (fun _ => ?_) (fun h => absurd hi (by simpa using h))
    conv => whnf
    refine elemK_nat hx ?_
    conv => whnf
    refine DrawCall_v (la50 c.lamp c.windings t (CrsR.of hR ht)) rfl rfl ?_
    conv => whnf
    refine CallA_v (la87 c.sights (courseL c.lamp c.windings t) (by omega) (fun s hs => by have := hR.sight s hs; omega)) rfl rfl ?_
    conv => whnf
    generalize courseL c.lamp c.windings t = lit at he k1 k2 k3
    by_cases hw : wrongF lit c.sights 0 = []
    · rw [if_pos hw] at he
      refine brk_i (fun _ => ?_) (fun h => absurd h (by simp [hw]))
      conv => whnf
      refine elemK_nat hx ?_
      conv => whnf
      refine ownK_whole rfl ?_
      conv => whnf
      refine ownK_whole (by simp [Els.len]) ?_
      conv => whnf
      refine chk_i (decide_eq_true (by
        show ((acc.map fun p => p.1.cells).length + 1) * 32 ≤ 140737488355328
        rw [List.length_map]; omega)) ?_
      conv => whnf
      refine ownK_whole rfl ?_
      conv => whnf
      refine ownK_whole (by simp [Els.len]) ?_
      conv => whnf
      refine chk_i (decide_eq_true (by
        show ((acc.map fun p => [boolsD p.2]).length + 1) * 24 ≤ 140737488355328
        rw [List.length_map]; omega)) ?_
      conv => whnf
      refine arith_in (wrap_i64 (by (try dsimp only); omega)) ?_
      conv => whnf
      refine ⟨acc ++ [(t, lit)], ⟨by rw [he]; simp, by simp; omega, hrest⟩, Wk.sub ⟨rfl, rfl, ?_, ?_, rfl, trivial⟩ ⟨rfl, ?_, ?_, trivial⟩⟩
      · show some (V.sl 38 2 0 ((acc.map fun p => p.1.cells).length + 1)) = _
        simp
      · show some (V.sl 42 1 0 ((acc.map fun p => [boolsD p.2]).length + 1)) = _
        simp
      · show some (Obj.arr 2 (Els.dd ((acc.map fun p => p.1.cells) ++ [t.cells]))) = _
        simp
      · show some (Obj.arr 1 (Els.dd ((acc.map fun p => [boolsD p.2]) ++ [[boolsD lit]]))) = _
        simp
    · rw [if_neg hw] at he
      refine brk_i (fun h => absurd h (by simp [hw])) (fun _ => ?_)
      conv => whnf
      refine arith_in (wrap_i64 (by (try dsimp only); omega)) ?_
      conv => whnf
      exact ⟨acc, ⟨he, by omega, hrest⟩, (Wk.sub ⟨(by first | rfl | (simp only [List.length_map]; rfl) | simp [PX.get]), (by first | rfl | (simp only [List.length_map]; rfl) | simp [PX.get]), (by first | rfl | (simp only [List.length_map]; rfl) | simp [PX.get]), (by first | rfl | (simp only [List.length_map]; rfl) | simp [PX.get]), (by first | rfl | (simp only [List.length_map]; rfl) | simp [PX.get]), trivial⟩ ⟨(by first | rfl | (simp only [List.length_map]; rfl) | simp [PX.get]), (by first | rfl | (simp only [List.length_map]; rfl) | simp [PX.get]), (by first | rfl | (simp only [List.length_map]; rfl) | simp [PX.get]), trivial⟩)⟩
  · intro acc ⟨he, hal, _⟩
    rw [show agR c [] = [] from rfl, List.append_nil] at he
    rw [he]
    conv => whnf
    refine brk_i (fun h => absurd h (by simp)) (fun _ => ?_)
    conv => whnf
    refine RetA_view 1 (ds := [truthsD (acc.map (·.1)), litsD (acc.map (·.2))]) ?_ ⟨⟨rfl, rfl⟩, rfl⟩
    exact viewL_cons (viewV_sl' rfl (by simp [Function.comp_def]) (by simp)) (viewL_cons (viewV_sl' rfl (by simp [Function.comp_def]) (by simp)) rfl)
end Go.PX

namespace Go.PX
open Go.Proofs

/- Lamp: the reference's truths that agree are the program's. -/

/-- The reference's truths that agree, and what they show, are the program's. -/
theorem agR_agL {c : LCase} (h0 : (checkL c).2.2 = 0) : agR c (allT c.lamp c.windings) = agL c := by
  have hR := checkL_ok h0
  unfold agR agL
  rw [truL_all (CaseL.up h0).1, List.filter_map]
  congr 1
  refine List.filter_congr fun t ht => ?_
  show decide (wrongF (courseL c.lamp c.windings t) c.sights 0 = []) = okW (wantF (wantM c.sights)) 0 (courseL c.lamp c.windings t)
  refine (agree_same fun s hs => ?_).symm
  have h1 := hR.sight s hs
  have h2 := (courseL_len (w := c.windings) (t := t) hR.lamp).2.2
  omega

theorem la78' (c : LCase) (h0 : (checkL c).2.2 = 0) : FnV Try.prog 78 [c.d] (agreeRD (agL c)) := FnV.cast (la78 c (checkL_ok h0)) (by rw [agR_agL h0])
end Go.PX

namespace Go.PX
open Go.Proofs

/- Lamp: the reference: lighted, Fails, Kept. -/

theorem la91 (l : LLight) (e : Int) : FnV Try.prog 91 [l.d, i64 e] (i64 (if e = 0 then (lightsF [l]).2 else e)) := by
  refine fnV_of mixed tysOk Try.func91 rfl (ft := ft91) 2 (by decide +kernel) (by rfl) fun {σ} Y st => ?_
  conv => whnf
  refine brk_i (fun h0 => ?_) (fun h0 => ?_)
  · have h0 : e = 0 := by simpa using h0
    rw [if_pos h0]
    conv => whnf
    refine CallA_view (la18 [l]) rfl 1 rfl ?_
    conv => whnf
    exact RetA_view 0 rfl ⟨⟨rfl, rfl⟩, rfl⟩
  · have h0 : ¬ e = 0 := by simpa using h0
    rw [if_neg h0]
    conv => whnf
    exact RetA_view 0 rfl ⟨⟨rfl, rfl⟩, rfl⟩

theorem entr_lighted (c : LCase) (l : LLight) : (if (checkL c).2.2 = 0 then (lightsF [l]).2 else (checkL c).2.2) = entrE c [l] := rfl

set_option maxHeartbeats 1000000 in
theorem la31 (c : LCase) (l : LLight) (t : LTruth) : FnV Try.prog 31 [c.d, l.d, t.d] (.tup [i64 (failV c l t), i64 (failE c l t)]) := by
  refine fnV_of mixed tysOk Try.func31 rfl (ft := ft31) 3 (by decide +kernel) (by rfl) fun {σ} Y st => ?_
  conv => whnf
  refine CallA_v (la16 c) rfl rfl ?_
  conv => whnf
  refine DrawCall_v (la91 l (checkL c).2.2) rfl rfl ?_
  rw [entr_lighted]
  conv => whnf
  refine DrawCall_v (la74 c t (entrE c [l]) (fun h => by have := (checkL_ok (entr_ok h).1).winds; omega)) rfl rfl ?_
  rw [show askE c t (entrE c [l]) = failE c l t from rfl]
  conv => whnf
  by_cases h1 : failE c l t = 0
  case neg =>
    have hv : failV c l t = 0 := by unfold failV; rw [if_neg h1]
    rw [hv]
    refine brk_i (fun _ => ?_) (fun h2 => absurd h2 (by simp [h1]))
    conv => whnf
    exact RetA_view 0 rfl ⟨⟨rfl, rfl⟩, rfl⟩
  have h0 : entrE c [l] = 0 := by
    by_cases h : entrE c [l] = 0
    · exact h
    · unfold failE at h1; rw [if_neg h] at h1; exact absurd h1 h
  obtain ⟨h00, hl⟩ := entr_ok h0
  have hR := checkL_ok h00
  have hT : TruthR c t := truth_ok (by unfold failE at h1; rwa [if_pos h0] at h1)
  have hv : failV c l t = failsL (courseL c.lamp c.windings t) l.phases := by unfold failV; rw [if_pos h1]
  rw [hv]
  refine brk_i (fun h2 => absurd h2 (by simp [h1])) (fun _ => ?_)
  conv => whnf
  refine DrawCall_v (la50 c.lamp c.windings t (CrsR.of hR hT)) rfl rfl ?_
  conv => whnf
  obtain ⟨k1, k2, _⟩ := courseL_len (w := c.windings) (t := t) hR.lamp
  refine DrawCall_v (la54 (courseL c.lamp c.windings t) l.phases k1 k2 (hl l (by simp)).ph) rfl rfl ?_
  conv => whnf
  rw [h1]
  exact RetA_view 0 rfl ⟨⟨rfl, rfl⟩, rfl⟩

/-- The first of the least failures: which truth, and its second. -/
def keptJ (ps : List LPhase) (L : List (LTruth × List Bool)) (night : Int) (i : Nat) (w v : Int) : Prop :=
  (w = -1 ∧ v = night ∧ leastX (failuresL ps (L.take i)) = none) ∨ ∃ j p, w = (j : Nat) ∧ j < i ∧ L[j]? = some p ∧ leastX (failuresL ps (L.take i)) = some (p.1, v) ∧ failsL p.2 ps = v ∧ 0 ≤ v ∧ v < night

theorem failures_snoc (ps : List LPhase) (A : List (LTruth × List Bool)) (p : LTruth × List Bool) : failuresL ps (A ++ [p]) = if failsL p.2 ps < 0 then failuresL ps A else failuresL ps A ++ [(p.1, failsL p.2 ps)] := by
  unfold failuresL
  rw [List.filterMap_append]
  by_cases h : failsL p.2 ps < 0
  · simp [h]
  · simp [h]

theorem leastX_snoc (A : List (LTruth × Int)) (x : LTruth × Int) : leastX (A ++ [x]) = leastS (leastX A) x := by
  unfold leastX
  rw [List.foldl_append]; rfl

theorem kept_step {ps : List LPhase} {L : List (LTruth × List Bool)} {night : Int} {i : Nat} {w v : Int} {p : LTruth × List Bool} (hx : L[i]? = some p) (hlt : failsL p.2 ps < night) (h : keptJ ps L night i w v) :
    keptJ ps L night (i + 1) (if 0 ≤ failsL p.2 ps ∧ failsL p.2 ps < v then (i : Int) else w) (if 0 ≤ failsL p.2 ps ∧ failsL p.2 ps < v then failsL p.2 ps else v) := by
  have htk : L.take (i + 1) = L.take i ++ [p] := by rw [List.take_succ, hx]; rfl
  unfold keptJ at h ⊢
  rw [htk, failures_snoc]
  by_cases h0 : failsL p.2 ps < 0
  · rw [if_pos h0, if_neg (by omega), if_neg (by omega)]
    rcases h with h | ⟨j, q, h1, h2, h3⟩
    · exact .inl h
    · exact .inr ⟨j, q, h1, by omega, h3⟩
  · rw [if_neg h0, leastX_snoc]
    rcases h with ⟨h1, h2, h3⟩ | ⟨j, q, h1, h2, h3, h4, h5, h6, h7⟩
    · rw [h3, if_pos ⟨by omega, by omega⟩, if_pos ⟨by omega, by omega⟩]
      exact .inr ⟨i, p, rfl, by omega, hx, rfl, rfl, by omega, hlt⟩
    · rw [h4, leastS]
      by_cases h8 : failsL p.2 ps < v
      · rw [if_pos ⟨by omega, h8⟩, if_pos ⟨by omega, h8⟩, if_pos (by simp only; omega)]
        exact .inr ⟨i, p, rfl, by omega, hx, rfl, rfl, by omega, hlt⟩
      · rw [if_neg (by omega), if_neg (by omega), if_neg (by simp only; omega)]
        exact .inr ⟨j, q, h1, by omega, h3, rfl, h5, h6, h7⟩

theorem failsL_lt {l : List LPhase} {lit : List Bool} (h : lit ≠ []) : failsL lit l < lit.length := by
  unfold failsL
  cases lit with
  | nil => exact absurd rfl h
  | cons b r =>
    have := failsF_rng (l := l) (r := r) (b := b) (A := initA b l.length) (s := 1)
    simp only [List.length_cons]
    omega

set_option maxHeartbeats 1000000 in
theorem la33 (c : LCase) (l : LLight) : FnV Try.prog 33 [c.d, l.d] (keptD c l) := by
  refine fnV_of mixed tysOk Try.func33 rfl (ft := ft33) 2 (by decide +kernel) (by rfl) fun {σ} Y st => ?_
  conv => whnf
  refine CallA_v (la16 c) rfl rfl ?_
  conv => whnf
  refine CallA_v (la91 l (checkL c).2.2) rfl rfl ?_
  conv => whnf
  rw [entr_lighted]
  by_cases h0 : entrE c [l] = 0
  case neg =>
    have he : keptE c l = entrE c [l] := by unfold keptE; rw [if_neg h0]
    have hv : keptX c l = (⟨0, []⟩, 0) := by unfold keptX; rw [if_neg h0]
    rw [keptD, he, hv]
    refine brk_i (fun _ => ?_) (fun h1 => absurd h1 (by simp [h0]))
    conv => whnf
    exact RetA_viewR 0 rfl rfl ⟨⟨rfl, rfl⟩, rfl⟩
  obtain ⟨h00, hl⟩ := entr_ok h0
  have hl := hl l (by simp)
  have hR := checkL_ok h00
  have hn := hR.lamp.night
  have he : keptE c l = (if agL c = [] then 9 else if leastX (failuresL l.phases (agL c)) = none then 4 else 0) := by unfold keptE; rw [if_pos h0]
  have hv : keptX c l = (leastX (failuresL l.phases (agL c))).getD (⟨0, []⟩, 0) := by unfold keptX; rw [if_pos h0]
  rw [keptD, he, hv]
  refine brk_i (fun h1 => absurd h1 (by simp [h0])) (fun _ => ?_)
  conv => whnf
  refine CallA_v (la78' c h00) rfl rfl ?_
  conv => whnf
  have hlit : ∀ p ∈ agL c, p.2.length = c.lamp.night.toNat := fun p hp => (agL_ok h00 hp).2.2
  have hlen := agL_len h00
  generalize agL c = L at hlit hlen
  refine brk_i (fun h1 => ?_) (fun h1 => ?_)
  · have h1 : L = [] := by simpa using h1
    subst h1
    conv => whnf
    exact RetA_viewR 0 rfl rfl ⟨⟨rfl, rfl⟩, rfl⟩
  have h1 : ¬ L = [] := by simpa using h1
  rw [if_neg h1]
  conv => whnf
  refine LoopA_i (T := tys) tysOk (by exact drawsB_spec mixed tysOk (by decide +kernel)) L (fun i (q : Int × Int) => ⟨[(2, .ptr 2 0), (3, .ptr 3 0), (4, .ptr 4 0), (10, .d (truthsD (L.map (·.1)))), (11, .d (litsD (L.map (·.2)))), (12, .d (i64 q.1)), (13, .d (i64 q.2)), (14, .d (i64 i))], [(2, .box (.dd c.cells)), (3, .box (.dd l.cells)), (4, .box (.dd [i64 0, .nils]))], st⟩)
    (fun i r q => keptJ l.phases L c.lamp.night i q.1 q.2) (-1, c.lamp.night) (Wk.sub ⟨(by first | rfl | (simp only [List.length_map]; rfl) | simp [PX.get]), (by first | rfl | (simp only [List.length_map]; rfl) | simp [PX.get]), (by first | rfl | (simp only [List.length_map]; rfl) | simp [PX.get]), (by first | rfl | (simp only [List.length_map]; rfl) | simp [PX.get]), (by first | rfl | (simp only [List.length_map]; rfl) | simp [PX.get]), (by first | rfl | (simp only [List.length_map]; rfl) | simp [PX.get]), (by first | rfl | (simp only [List.length_map]; rfl) | simp [PX.get]), (by first | rfl | (simp only [List.length_map]; rfl) | simp [PX.get]), trivial⟩ ⟨(by first | rfl | (simp only [List.length_map]; rfl) | simp [PX.get]), (by first | rfl | (simp only [List.length_map]; rfl) | simp [PX.get]), (by first | rfl | (simp only [List.length_map]; rfl) | simp [PX.get]), trivial⟩) (.inl ⟨rfl, rfl, rfl⟩) ?_ ?_
  · rintro i p r ⟨w, v⟩ hx hi hr hj
    simp only at hj
    have hp := hlit p (List.mem_of_getElem? hx)
    have hne : p.2 ≠ [] := by intro h; rw [h] at hp; simp at hp; omega
    have hlt := failsL_lt (l := l.phases) hne
    have hj2 := kept_step hx (by omega) hj
    have hx2 : (L.map (·.2))[i]? = some p.2 := by rw [List.getElem?_map, hx]; rfl
    conv => whnf
    refine brk_i (fun _ => ?_) (fun h => absurd hi (by simpa using h))
    conv => whnf
    refine elemK_nat hx2 ?_
    conv => whnf
    refine DrawCall_v (la54 p.2 l.phases hne (by omega) hl.ph) rfl rfl ?_
    conv => whnf
    generalize failsL p.2 l.phases = f at hj2 hlt
    by_cases h2 : 0 ≤ f
    · rw [show decide (0 ≤ f) = true from decide_eq_true h2]
      conv => whnf
      refine brk_i (fun h3 => ?_) (fun h3 => ?_)
      · have h3 : f < v := by simpa using h3
        rw [if_pos ⟨h2, h3⟩, if_pos ⟨h2, h3⟩] at hj2
        conv => whnf
        refine arith_in (wrap_i64 (by (try dsimp only); omega)) ?_
        conv => whnf
        exact ⟨((i : Int), f), hj2, (Wk.sub ⟨(by first | rfl | (simp only [List.length_map]; rfl) | simp [PX.get]), (by first | rfl | (simp only [List.length_map]; rfl) | simp [PX.get]), (by first | rfl | (simp only [List.length_map]; rfl) | simp [PX.get]), (by first | rfl | (simp only [List.length_map]; rfl) | simp [PX.get]), (by first | rfl | (simp only [List.length_map]; rfl) | simp [PX.get]), (by first | rfl | (simp only [List.length_map]; rfl) | simp [PX.get]), (by first | rfl | (simp only [List.length_map]; rfl) | simp [PX.get]), (by first | rfl | (simp only [List.length_map]; rfl) | simp [PX.get]), trivial⟩ ⟨(by first | rfl | (simp only [List.length_map]; rfl) | simp [PX.get]), (by first | rfl | (simp only [List.length_map]; rfl) | simp [PX.get]), (by first | rfl | (simp only [List.length_map]; rfl) | simp [PX.get]), trivial⟩)⟩
      · have h3 : ¬ f < v := by simpa using h3
        rw [if_neg (fun h => h3 h.2), if_neg (fun h => h3 h.2)] at hj2
        conv => whnf
        refine arith_in (wrap_i64 (by (try dsimp only); omega)) ?_
        conv => whnf
        exact ⟨(w, v), hj2, (Wk.sub ⟨(by first | rfl | (simp only [List.length_map]; rfl) | simp [PX.get]), (by first | rfl | (simp only [List.length_map]; rfl) | simp [PX.get]), (by first | rfl | (simp only [List.length_map]; rfl) | simp [PX.get]), (by first | rfl | (simp only [List.length_map]; rfl) | simp [PX.get]), (by first | rfl | (simp only [List.length_map]; rfl) | simp [PX.get]), (by first | rfl | (simp only [List.length_map]; rfl) | simp [PX.get]), (by first | rfl | (simp only [List.length_map]; rfl) | simp [PX.get]), (by first | rfl | (simp only [List.length_map]; rfl) | simp [PX.get]), trivial⟩ ⟨(by first | rfl | (simp only [List.length_map]; rfl) | simp [PX.get]), (by first | rfl | (simp only [List.length_map]; rfl) | simp [PX.get]), (by first | rfl | (simp only [List.length_map]; rfl) | simp [PX.get]), trivial⟩)⟩
    · rw [show decide (0 ≤ f) = false from decide_eq_false h2]
      rw [if_neg (fun h => h2 h.1), if_neg (fun h => h2 h.1)] at hj2
      conv => whnf
      refine arith_in (wrap_i64 (by (try dsimp only); omega)) ?_
      conv => whnf
      exact ⟨(w, v), hj2, (Wk.sub ⟨(by first | rfl | (simp only [List.length_map]; rfl) | simp [PX.get]), (by first | rfl | (simp only [List.length_map]; rfl) | simp [PX.get]), (by first | rfl | (simp only [List.length_map]; rfl) | simp [PX.get]), (by first | rfl | (simp only [List.length_map]; rfl) | simp [PX.get]), (by first | rfl | (simp only [List.length_map]; rfl) | simp [PX.get]), (by first | rfl | (simp only [List.length_map]; rfl) | simp [PX.get]), (by first | rfl | (simp only [List.length_map]; rfl) | simp [PX.get]), (by first | rfl | (simp only [List.length_map]; rfl) | simp [PX.get]), trivial⟩ ⟨(by first | rfl | (simp only [List.length_map]; rfl) | simp [PX.get]), (by first | rfl | (simp only [List.length_map]; rfl) | simp [PX.get]), (by first | rfl | (simp only [List.length_map]; rfl) | simp [PX.get]), trivial⟩)⟩
  · rintro ⟨w, v⟩ hj
    simp only at hj
    unfold keptJ at hj
    rw [List.take_length] at hj
    conv => whnf
    refine brk_i (fun h => absurd h (by simp)) (fun _ => ?_)
    conv => whnf
    rcases hj with ⟨h2, h3, h4⟩ | ⟨j, p, h2, h3, h4, h5, h6, h7, h8⟩
    · subst h2
      rw [h4]
      conv => whnf
      exact RetA_viewR 0 rfl rfl ⟨⟨rfl, rfl⟩, rfl⟩
    · subst h2
      rw [h5]
      have hx1 : (L.map (·.1))[j]? = some p.1 := by rw [List.getElem?_map, h4]; rfl
      rw [show decide (((j : Nat) : Int) < 0) = false from decide_eq_false (by omega)]
      conv => whnf
      refine elemK_nat hx1 ?_
      conv => whnf
      exact RetA_view 0 rfl ⟨⟨rfl, rfl⟩, rfl⟩
end Go.PX

namespace Go.PX
open Go.Proofs

/- Lamp: the reference: Run, Longest, Wind. -/

theorem FnV.arg {P : Program} {f : FuncId} {ds ds' : List D} {res : D} (h : FnV P f ds res) (hr : ∀ (F : Nat → Nat) (w : World) (l : List Value), RepDL F w ds' l → RepDL F w ds l) : FnV P f ds' res :=
  fun {_} Y s => ⟨(h Y s).enter, fun cx hY L F vals w hh hv => (h Y s).run cx hY L F vals w hh (RepVL.inj.2 (hr _ _ _ (RepVL.inj.1 hv)))⟩

theorem la50n (x : LLamp) (t : LTruth) (hr : CrsR x [] t) : FnV Try.prog 50 [x.d, .nils, t.d] (boolsD (courseL x [] t)) :=
  FnV.arg (fun {_} => la50 x [] t hr) (fun F w l h => by
    obtain ⟨a, l1, rfl, ha, b, l2, rfl, hb, h2⟩ := h
    exact ⟨a, _, rfl, ha, b, _, rfl, RepD.relax .nils b hb, h2⟩)

def runV (x : LLamp) (ps : List LPhase) (a v : Int) : Int := if failsL (courseL x [] ⟨a, [v]⟩) ps < 0 then x.night else failsL (courseL x [] ⟨a, [v]⟩) ps

theorem CrsR.one {x : LLamp} (h : LampR x) {a v : Int} (ha : 0 ≤ a ∧ a < x.drum) (hv : 1 ≤ v ∧ v ≤ 40) : CrsR x [] ⟨a, [v]⟩ := ⟨h, by simp, ha, rfl, fun s hs => by rw [List.mem_singleton.1 hs]; exact hv⟩

set_option maxHeartbeats 1000000 in
theorem la57 (x : LLamp) (l : LLight) (a v : Int) (h : LampR x) (hl : LightR l) (ha : 0 ≤ a ∧ a < x.drum) (hv : 1 ≤ v ∧ v ≤ 40) : FnV Try.prog 57 [x.d, l.d, i64 a, i64 v] (i64 (runV x l.phases a v)) := by
  refine fnV_of mixed tysOk Try.func57 rfl (ft := ft57) 4 (by decide +kernel) (by rfl) fun {σ} Y st => ?_
  conv => whnf
  refine DrawCall_fz (la50n x ⟨a, [v]⟩ (CrsR.one h ha hv)) 1 rfl rfl ?_
  conv => whnf
  obtain ⟨k1, k2, k3⟩ := courseL_len (w := []) (t := ⟨a, [v]⟩) h
  refine DrawCall_v (la54 (courseL x [] ⟨a, [v]⟩) l.phases k1 k2 hl.ph) rfl rfl ?_
  conv => whnf
  unfold runV
  refine brk_i (fun h1 => ?_) (fun h1 => ?_)
  · have h1 : failsL (courseL x [] ⟨a, [v]⟩) l.phases < 0 := by simpa using h1
    rw [if_pos h1]
    conv => whnf
    exact RetA_view 0 rfl ⟨⟨rfl, rfl⟩, rfl⟩
  · have h1 : ¬ failsL (courseL x [] ⟨a, [v]⟩) l.phases < 0 := by simpa using h1
    rw [if_neg h1]
    conv => whnf
    exact RetA_view 0 rfl ⟨⟨rfl, rfl⟩, rfl⟩

theorem courseF_any {x : LLamp} {w sp : List Int} : ∀ {k : Nat} {s a b : Int} {n : Nat}, courseF (anyStart x) w sp k s a b n = courseF x w sp k s a b n
  | 0, _, _, _, _ => rfl
  | k + 1, s, a, b, n => by
    rw [courseF, courseF, courseF_any, courseF_any]; rfl

theorem check_alone (x : LLamp) : (checkL (aloneC x)).2.2 = (wheelF x).2.2 := by
  unfold checkL aloneC
  by_cases h : (wheelF x).2.2 = 0
  · simp [h, windF, sightF]
  · simp [h]

def runsP (x : LLamp) : List (Int × Int) := (upto x.drum.toNat 0).flatMap fun a => (spanL x.speed).map fun v => (a, v)
def longR (x : LLamp) (ps : List LPhase) : Int := (runsP x).foldl (fun n p => min n (runV x ps p.1 p.2)) x.night

theorem anyC_eq {x : LLamp} (h : LampR x) : anyC x = (runsP x).map fun p => (⟨p.1, [p.2]⟩, courseL x [] ⟨p.1, [p.2]⟩) := by
  unfold anyC
  rw [truL_all (upF_nil h.any)]
  have h1 : (allT (anyStart x) []).filter (fun t => okW trueF 0 (courseL (anyStart x) [] t)) = allT (anyStart x) [] := by
    rw [List.filter_eq_self]
    exact fun t _ => okW_true _ _
  rw [h1]
  have h2 : allT (anyStart x) [] = (runsP x).map fun p => (⟨p.1, [p.2]⟩ : LTruth) := by
    unfold allT runsP
    have e1 : spanL (anyStart x).start = upto x.drum.toNat 0 := by
      show upto (x.drum - 1 + 1 - 0).toNat 0 = _
      congr 1
      have := h.drum
      omega
    have e2 : speedsL (anyStart x).speed (([] : List Int).length + 1) = (spanL x.speed).map fun v => [v] := by
      show (spanL x.speed).flatMap (fun v => [[]].map (v :: ·)) = _
      generalize spanL x.speed = q
      induction q with
      | nil => rfl
      | cons v r ih => rw [List.flatMap_cons, ih]; rfl
    rw [e1, e2, List.map_flatMap]
    congr 1
    funext a
    rw [List.map_map, List.map_map]
    rfl
  rw [h2, List.map_map]
  refine List.map_congr_left fun p _ => ?_
  show (_, courseF (anyStart x) _ _ _ _ _ _ _) = (_, courseF x _ _ _ _ _ _ _)
  rw [courseF_any]
  rfl

theorem longF_ref {x : LLamp} (h : LampR x) (ps : List LPhase) : longF x ps = longR x ps := by
  unfold longF longR
  rw [anyC_eq h, List.foldl_map]
  have key : ∀ (q : List (Int × Int)) (n : Int), n ≤ x.night → q.foldl (fun n p => longStep ps n (⟨p.1, [p.2]⟩, courseL x [] ⟨p.1, [p.2]⟩)) n = q.foldl (fun n p => min n (runV x ps p.1 p.2)) n := by
    intro q
    induction q with
    | nil => exact fun _ _ => rfl
    | cons p r ih =>
      intro n hn
      rw [List.foldl_cons, List.foldl_cons]
      have : longStep ps n (⟨p.1, [p.2]⟩, courseL x [] ⟨p.1, [p.2]⟩) = min n (runV x ps p.1 p.2) := by
        unfold longStep runV
        simp only
        by_cases h1 : failsL (courseL x [] ⟨p.1, [p.2]⟩) ps < 0
        · rw [if_neg (by omega), if_pos h1]; omega
        · rw [if_pos (by omega), if_neg h1]
      rw [this]
      exact ih _ (by omega)
  exact key _ _ (Int.le_refl _)

set_option maxHeartbeats 1000000 in
theorem la38 (x : LLamp) (l : LLight) : FnV Try.prog 38 [x.d, l.d] (.tup [i64 (longV x l), i64 (longE x l)]) := by
  refine fnV_of mixed tysOk Try.func38 rfl (ft := ft38) 2 (by decide +kernel) (by rfl) fun {σ} Y st => ?_
  conv => whnf
  refine CallA_v (la62 x) rfl rfl ?_
  conv => whnf
  refine CallA_v (la91 l (wheelF x).2.2) rfl rfl ?_
  conv => whnf
  have he : (if (wheelF x).2.2 = 0 then (lightsF [l]).2 else (wheelF x).2.2) = longE x l := by
    unfold longE entrE
    rw [check_alone]
  rw [he]
  by_cases h0 : longE x l = 0
  case neg =>
    have hv : longV x l = 0 := by unfold longV; rw [if_neg h0]
    rw [hv]
    refine brk_i (fun _ => ?_) (fun h1 => absurd h1 (by simp [h0]))
    conv => whnf
    exact RetA_view 0 rfl ⟨⟨rfl, rfl⟩, rfl⟩
  obtain ⟨hR, hl⟩ := long_ok h0
  have hv : longV x l = longR x l.phases := by unfold longV; rw [if_pos h0, longF_ref hR]
  rw [hv]
  unfold longR runsP
  have hd := hR.drum
  have hs := hR.speed
  refine brk_i (fun h1 => absurd h1 (by simp [h0])) (fun _ => ?_)
  conv => whnf
  refine LoopA_p (T := tys) tysOk (by exact drawsB_spec mixed tysOk (by decide +kernel)) (α := Nat × Int)
    (fun p => ⟨[(2, .ptr 2 0), (3, .ptr 3 0), (9, .d (i64 p.2)), (10, .d (i64 p.1))], [(2, .box (.dd x.cells)), (3, .box (.dd l.cells))], st⟩)
    (fun p => p.1 ≤ x.drum.toNat ∧ ((upto x.drum.toNat 0).flatMap fun a => (spanL x.speed).map fun v => (a, v)).foldl (fun n p => min n (runV x l.phases p.1 p.2)) x.night = ((upto (x.drum.toNat - p.1) p.1).flatMap fun a => (spanL x.speed).map fun v => (a, v)).foldl (fun n p => min n (runV x l.phases p.1 p.2)) p.2)
    (fun p => x.drum.toNat - p.1) (0, x.night) (Wk.sub ⟨(by first | rfl | (simp only [List.length_map]; rfl) | simp [PX.get]), (by first | rfl | (simp only [List.length_map]; rfl) | simp [PX.get]), (by first | rfl | (simp only [List.length_map]; rfl) | simp [PX.get]), (by first | rfl | (simp only [List.length_map]; rfl) | simp [PX.get]), trivial⟩ ⟨(by first | rfl | (simp only [List.length_map]; rfl) | simp [PX.get]), (by first | rfl | (simp only [List.length_map]; rfl) | simp [PX.get]), trivial⟩) ⟨Nat.zero_le _, rfl⟩ ?_
  rintro ⟨j, n0⟩ ⟨hj, hb⟩
  simp only at hj hb
  conv => whnf
  refine brk_i (fun h4 => ?_) (fun h4 => ?_)
  case refine_2 =>
    have h4 : ¬ (j : Int) < x.drum := by simpa using h4
    rw [show x.drum.toNat - j = 0 by omega, upto, List.flatMap_nil, List.foldl_nil] at hb
    rw [hb]
    conv => whnf
    rw [h0]
    exact RetA_view 0 rfl ⟨⟨rfl, rfl⟩, rfl⟩
  have h4 : (j : Int) < x.drum := by simpa using h4
  obtain ⟨m, hm⟩ : ∃ m, x.drum.toNat - j = m + 1 := ⟨x.drum.toNat - j - 1, by omega⟩
  rw [hm, upto, List.flatMap_cons, List.foldl_append, List.foldl_map] at hb
  conv => whnf
  refine LoopA_p (T := tys) tysOk (by exact drawsB_spec mixed tysOk (by decide +kernel)) (α := Nat × Int)
    (fun p => ⟨[(2, .ptr 2 0), (3, .ptr 3 0), (9, .d (i64 p.2)), (10, .d (i64 j)), (11, .d (i64 (x.speed.lo + p.1)))], [(2, .box (.dd x.cells)), (3, .box (.dd l.cells))], st⟩)
    (fun p => p.1 ≤ (x.speed.hi + 1 - x.speed.lo).toNat ∧ (spanL x.speed).foldl (fun n v => min n (runV x l.phases j v)) n0 = (upto ((x.speed.hi + 1 - x.speed.lo).toNat - p.1) (x.speed.lo + p.1)).foldl (fun n v => min n (runV x l.phases j v)) p.2)
    (fun p => (x.speed.hi + 1 - x.speed.lo).toNat - p.1) (0, n0) ?wk ?pr ?_
  case wk => exact Wk.sub ⟨rfl, rfl, rfl, rfl, by show some (V.d (i64 x.speed.lo)) = some (V.d (i64 (x.speed.lo + ((0 : Nat) : Int)))); simp, trivial⟩ ⟨rfl, rfl, trivial⟩
  case pr => exact ⟨Nat.zero_le _, by simp [spanL]⟩
  rintro ⟨i, n1⟩ ⟨hi, hc⟩
  simp only at hi hc
  conv => whnf
  refine brk_i (fun h5 => ?_) (fun h5 => ?_)
  case refine_2 =>
    have h5 : ¬ x.speed.lo + i ≤ x.speed.hi := by simpa using h5
    rw [show (x.speed.hi + 1 - x.speed.lo).toNat - i = 0 by omega, upto, List.foldl_nil] at hc
    rw [hc] at hb
    conv => whnf
    refine arith_to (((j + 1 : Nat) : Int)) (by (try dsimp only); omega) (wrap_i64 (by (try dsimp only); omega)) ?_
    conv => whnf
    refine ⟨(j + 1, n1), by simp only; omega, ⟨by simp only; omega, ?_⟩, (Wk.sub ⟨(by first | rfl | (simp only [List.length_map]; rfl) | simp [PX.get]), (by first | rfl | (simp only [List.length_map]; rfl) | simp [PX.get]), (by first | rfl | (simp only [List.length_map]; rfl) | simp [PX.get]), (by first | rfl | (simp only [List.length_map]; rfl) | simp [PX.get]), trivial⟩ ⟨(by first | rfl | (simp only [List.length_map]; rfl) | simp [PX.get]), (by first | rfl | (simp only [List.length_map]; rfl) | simp [PX.get]), trivial⟩)⟩
    simp only
    rw [hb, show x.drum.toNat - (j + 1) = m by omega]
    rfl
  have h5 : x.speed.lo + i ≤ x.speed.hi := by simpa using h5
  obtain ⟨m2, hm2⟩ : ∃ m2, (x.speed.hi + 1 - x.speed.lo).toNat - i = m2 + 1 := ⟨(x.speed.hi + 1 - x.speed.lo).toNat - i - 1, by omega⟩
  rw [hm2, upto, List.foldl_cons] at hc
  conv => whnf
  refine CallA_v (la57 x l j (x.speed.lo + i) hR hl (by omega) (by omega)) rfl rfl ?_
  conv => whnf
  refine arith_to (x.speed.lo + ((i + 1 : Nat) : Int)) (by (try dsimp only); omega) (wrap_i64 (by (try dsimp only); omega)) ?_
  conv => whnf
  refine ⟨(i + 1, min n1 (runV x l.phases j (x.speed.lo + i))), by simp only; omega, ⟨by simp only; omega, ?_⟩, Wk.sub ⟨rfl, rfl, rfl, rfl, rfl, trivial⟩ ⟨rfl, rfl, trivial⟩⟩
  simp only
  rw [hc, show (x.speed.hi + 1 - x.speed.lo).toNat - (i + 1) = m2 by omega, show x.speed.lo + ((i + 1 : Nat) : Int) = x.speed.lo + (i : Int) + 1 by omega]

set_option maxHeartbeats 1000000 in
theorem la40 (x : LLamp) (l : LLight) : FnV Try.prog 40 [x.d, l.d] (.tup [intsD (windV x l), i64 (longE x l)]) := by
  refine fnV_of mixed tysOk Try.func40 rfl (ft := ft40) 2 (by decide +kernel) (by rfl) fun {σ} Y st => ?_
  conv => whnf
  refine CallA_v (la38 x l) rfl rfl ?_
  conv => whnf
  by_cases h0 : longE x l = 0
  case neg =>
    have hv : windV x l = [] := by unfold windV; rw [if_neg h0]
    rw [hv]
    refine brk_i (fun _ => ?_) (fun h1 => absurd h1 (by simp [h0]))
    conv => whnf
    exact RetA_viewR 0 rfl rfl ⟨⟨rfl, rfl⟩, rfl⟩
  have hv : windV x l = windL ((x.night - 1).tdiv (longV x l)).toNat (longV x l) := by unfold windV; rw [if_pos h0]
  have hR := (long_ok h0).1
  have hl := longF_rng (ps := l.phases) hR
  have hlv : longV x l = longF x l.phases := by unfold longV; rw [if_pos h0]
  rw [← hlv] at hl
  rw [hv]
  have hn := hR.night
  refine brk_i (fun h1 => absurd h1 (by simp [h0])) (fun _ => ?_)
  conv => whnf
  rw [Int.tdiv_eq_ediv_of_nonneg (by omega)]
  have hiff : ∀ i : Nat, ((i : Int) + 1) * longV x l < x.night ↔ i < ((x.night - 1) / longV x l).toNat := fun i => by
    have h1 := Int.le_ediv_iff_mul_le (a := (i : Int) + 1) (b := x.night - 1) (c := longV x l) (by omega)
    have h2 : 0 ≤ (x.night - 1) / longV x l := Int.ediv_nonneg (by omega) (by omega)
    omega
  have hq2 : ((x.night - 1) / longV x l).toNat ≤ 200 := by
    have := Int.ediv_le_self (a := x.night - 1) (longV x l) (by omega)
    omega
  generalize ((x.night - 1) / longV x l).toNat = K at hiff hq2
  generalize longV x l = n at hl hiff
  refine LoopA_p (T := tys) tysOk (by exact drawsB_spec mixed tysOk (by decide +kernel)) (α := Nat)
    (fun i => ⟨[(2, .ptr 2 0), (6, .d (i64 n)), (7, .d (i64 (longE x l))), (8, .sl 30 1 0 i), (9, .d (i64 (((i : Int) + 1) * n)))], [(2, .box (.dd x.cells)), (30, .arr 1 (.dd ((windL i n).map fun n => [i64 n])))], st⟩) (fun i => i ≤ K) (fun i => K - i) 0 ((Wk.born 8 30 1 rfl rfl rfl).trans (Wk.sub ⟨rfl, rfl, rfl, rfl, by show some (V.d (i64 n)) = some (V.d (i64 ((((0 : Nat) : Int) + 1) * n))); simp, trivial⟩ ⟨rfl, rfl, trivial⟩)) (Nat.zero_le _) ?_
  intro i hi
  have hil : (windL i n).length = i := windL_len i n
  have hii := hiff i
  conv => whnf
  refine brk_i (fun h1 => ?_) (fun h1 => ?_)
  · have h1 : ((i : Int) + 1) * n < x.night := by simpa using h1
    have h2 := hii.1 h1
    have hm0 : 0 ≤ ((i : Int) + 1) * n := Int.mul_nonneg (by omega) (by omega)
    have hm1 : (((i + 1 : Nat) : Int) + 1) * n = ((i : Int) + 1) * n + n := by
      rw [show (((i + 1 : Nat) : Int) + 1) = ((i : Int) + 1) + 1 by omega, Int.add_mul, Int.one_mul]
    conv => whnf
    refine ownK_whole rfl ?_
    conv => whnf
    refine ownK_whole (by simp [Els.len, hil]) ?_
    conv => whnf
    refine chk_i (decide_eq_true (by
      show (((windL i n).map fun n => [i64 n]).length + 1) * 8 ≤ 140737488355328
      rw [List.length_map]; omega)) ?_
    conv => whnf
    refine arith_to ((((i + 1 : Nat) : Int) + 1) * n) hm1.symm (wrap_i64 (by omega)) ?_
    conv => whnf
    refine ⟨i + 1, (by show K - (i + 1) < K - i; omega), (by show i + 1 ≤ K; omega), Wk.sub ⟨rfl, rfl, rfl, ?_, rfl, trivial⟩ ⟨rfl, ?_, trivial⟩⟩
    · simp [PX.get, Els.len, hil]
    · rw [windL_succ]; simp [PX.get]
  · have h1 : ¬ ((i : Int) + 1) * n < x.night := by simpa using h1
    have h2 : i = K := by
      have : ¬ i < K := fun h => h1 (hii.2 h)
      omega
    subst h2
    conv => whnf
    rw [h0]
    exact RetA_view 1 (ds := [intsD (windL i n), i64 0]) (viewL_cons (viewV_sl rfl (by simp [hil])) rfl) ⟨⟨rfl, rfl⟩, rfl⟩
end Go.PX

namespace Go.PX
open Go.Proofs

/- Lamp: plain law of Longest. -/

theorem mem_runs {x : LLamp} {a v : Int} : (a, v) ∈ runsP x ↔ (0 ≤ a ∧ a < x.drum) ∧ x.speed.lo ≤ v ∧ v ≤ x.speed.hi := by
  unfold runsP
  rw [List.mem_flatMap]
  constructor
  · rintro ⟨b, hb, h⟩
    obtain ⟨u, hu, he⟩ := List.mem_map.1 h
    cases he
    rw [mem_upto] at hb
    rw [mem_spanL] at hu
    omega
  · rintro ⟨h1, h2⟩
    exact ⟨a, mem_upto.2 (by omega), List.mem_map.2 ⟨v, mem_spanL.2 h2, rfl⟩⟩

theorem fold_min {f : Int × Int → Int} : ∀ {l : List (Int × Int)} {m : Int}, l.foldl (fun n p => min n (f p)) m ≤ m ∧ (∀ p ∈ l, l.foldl (fun n p => min n (f p)) m ≤ f p) ∧ (l.foldl (fun n p => min n (f p)) m = m ∨ ∃ p ∈ l, f p = l.foldl (fun n p => min n (f p)) m)
  | [], m => ⟨Int.le_refl _, fun p h => (by cases h), .inl rfl⟩
  | q :: r, m => by
    obtain ⟨h1, h2, h3⟩ := fold_min (f := f) (l := r) (m := min m (f q))
    rw [List.foldl_cons]
    refine ⟨by omega, fun p hp => ?_, ?_⟩
    · rcases List.mem_cons.1 hp with rfl | hp
      · omega
      · exact h2 p hp
    · rcases h3 with h3 | ⟨p, hp, h3⟩
      · rcases Int.le_total m (f q) with h | h
        · left; omega
        · right; exact ⟨q, by simp, by omega⟩
      · exact .inr ⟨p, by simp [hp], h3⟩

/-- What Longest says: each run keeps as long; one no longer. -/
theorem long_law {x : LLamp} (h : LampR x) (ps : List LPhase) : (∀ a v, (0 ≤ a ∧ a < x.drum) ∧ x.speed.lo ≤ v ∧ v ≤ x.speed.hi → longF x ps ≤ runV x ps a v) ∧
    (longF x ps = x.night ∨ ∃ a v, ((0 ≤ a ∧ a < x.drum) ∧ x.speed.lo ≤ v ∧ v ≤ x.speed.hi) ∧ runV x ps a v = longF x ps) := by
  rw [longF_ref h]
  obtain ⟨_, h2, h3⟩ := fold_min (f := fun p => runV x ps p.1 p.2) (l := runsP x) (m := x.night)
  refine ⟨fun a v hav => h2 (a, v) (mem_runs.2 hav), ?_⟩
  rcases h3 with h3 | ⟨⟨a, v⟩, hp, h3⟩
  · exact .inl h3
  · exact .inr ⟨a, v, mem_runs.1 hp, h3⟩
end Go.PX

namespace Go.PX
open Go.Proofs

/- Lamp: the openings and the start are turned. -/

def turnS (d : Int) (s : Span) : Span := ⟨s.lo + d, s.hi + d⟩
def turnX (d : Int) (x : LLamp) : LLamp := { x with start := turnS d x.start, lit := x.lit.map (turnS d) }
def turnC (d : Int) (c : LCase) : LCase := { c with lamp := turnX d c.lamp }
def turnT (d : Int) (t : LTruth) : LTruth := ⟨t.start + d, t.speeds⟩
def turnP (d : Int) (p : LTruth × List Bool) : LTruth × List Bool := (turnT d p.1, p.2)
def turnK (d : Int) (p : LTruth × Int) : LTruth × Int := (turnT d p.1, p.2)

theorem mod3 {a d m : Int} (ha : 0 ≤ a ∧ a < m) (hd : -m ≤ d ∧ d ≤ m) : ((a + d) % m = a + d ∨ (a + d) % m = a + d - m ∨ (a + d) % m = a + d + m) ∧ 0 ≤ (a + d) % m ∧ (a + d) % m < m := by
  refine ⟨?_, Int.emod_nonneg _ (by omega), Int.emod_lt_of_pos _ (by omega)⟩
  by_cases h1 : a + d < 0
  · right; right
    rw [← Int.add_emod_right, Int.emod_eq_of_lt (by omega) (by omega)]
  · by_cases h2 : a + d < m
    · left; exact Int.emod_eq_of_lt (by omega) h2
    · right; left
      rw [← Int.sub_emod_right, Int.emod_eq_of_lt (by omega) (by omega)]

theorem open_turn {x : LLamp} {d : Int} (hR : LampR x) (hY : LampR (turnX d x)) (hd : -x.drum ≤ d ∧ d ≤ x.drum) {a : Int} (ha : 0 ≤ a ∧ a < x.drum) : openB (turnX d x) ((a + d) % x.drum) = openB x a := by
  unfold openB
  show (x.lit.map (turnS d)).any _ = _
  rw [List.any_map]
  obtain ⟨h1, h2⟩ := mod3 ha hd
  generalize (a + d) % x.drum = b at h1 h2 ⊢
  have key : ∀ s ∈ x.lit, inB b (s.lo + d) (s.hi + d) = inB a s.lo s.hi := by
    intro s hs
    have h3 := hR.lit s hs
    have h4 : 0 ≤ s.lo + d ∧ s.lo + d ≤ s.hi + d ∧ s.hi + d ≤ x.drum - 1 := hY.lit (turnS d s) (List.mem_map.2 ⟨s, hs, rfl⟩)
    rw [Bool.eq_iff_iff, inB_iff, inB_iff]
    omega
  revert key
  generalize x.lit = l
  intro key
  induction l with
  | nil => rfl
  | cons s r ih =>
    rw [List.any_cons, List.any_cons, ih fun u hu => key u (by simp [hu])]
    congr 1
    exact key s (by simp)

theorem next_turn {x : LLamp} {d a v s : Int} : nextF (turnX d x) ((a + d) % x.drum) v s = (nextF x a v s + d) % x.drum := by
  show ((a + d) % x.drum + max 0 (v - s / x.slow)) % x.drum = ((a + max 0 (v - s / x.slow)) % x.drum + d) % x.drum
  rw [Int.emod_add_emod, Int.emod_add_emod]
  congr 1; omega

theorem courseF_turn {x : LLamp} {d : Int} (hR : LampR x) (hY : LampR (turnX d x)) (hd : -x.drum ≤ d ∧ d ≤ x.drum) {w sp : List Int} : ∀ {k : Nat} {s a b : Int} {n : Nat}, (0 ≤ a ∧ a < x.drum) →
    courseF (turnX d x) w sp k s ((a + d) % x.drum) b n = courseF x w sp k s a b n
  | 0, _, _, _, _, _ => rfl
  | k + 1, s, a, b, n, ha => by
    rw [courseF, courseF, open_turn hR hY hd ha, next_turn, next_turn, courseF_turn hR hY hd (nextF_bd hR _ _ _), courseF_turn hR hY hd (nextF_bd hR _ _ _)]

theorem courseL_turn {x : LLamp} {d : Int} (hR : LampR x) (hY : LampR (turnX d x)) (hd : -x.drum ≤ d ∧ d ≤ x.drum) {w : List Int} {t : LTruth} (ht : x.start.lo ≤ t.start ∧ t.start ≤ x.start.hi) : courseL (turnX d x) w (turnT d t) = courseL x w t := by
  have h1 := hR.start
  have h2 : 0 ≤ x.start.lo + d ∧ x.start.lo + d ≤ x.start.hi + d ∧ x.start.hi + d ≤ x.drum - 1 := hY.start
  have h3 := courseF_turn hR hY hd (w := w) (sp := t.speeds) (k := x.night.toNat) (s := 0) (a := t.start) (b := 0) (n := 0) (by omega)
  rw [Int.emod_eq_of_lt (by omega) (by omega)] at h3
  exact h3

theorem upto_turn {d : Int} : ∀ {k : Nat} {v : Int}, upto k (v + d) = (upto k v).map (· + d)
  | 0, _ => rfl
  | k + 1, v => by
    rw [upto, upto, List.map_cons, ← upto_turn]
    congr 2; omega

theorem allT_turn {x : LLamp} {d : Int} {w : List Int} : allT (turnX d x) w = (allT x w).map (turnT d) := by
  unfold allT
  have h1 : spanL (turnX d x).start = (spanL x.start).map (· + d) := by
    show upto (x.start.hi + d + 1 - (x.start.lo + d)).toNat (x.start.lo + d) = (upto (x.start.hi + 1 - x.start.lo).toNat x.start.lo).map (· + d)
    rw [show x.start.hi + d + 1 - (x.start.lo + d) = x.start.hi + 1 - x.start.lo by omega, upto_turn]
  rw [h1, List.flatMap_map, List.map_flatMap]
  refine flatMap_congr' fun a _ => ?_
  rw [List.map_map]; rfl

theorem agL_turn {c : LCase} {d : Int} (h0 : (checkL c).2.2 = 0) (h1 : (checkL (turnC d c)).2.2 = 0) (hd : -c.lamp.drum ≤ d ∧ d ≤ c.lamp.drum) : agL (turnC d c) = (agL c).map (turnP d) := by
  have hR := (checkL_ok h0).lamp
  have hY : LampR (turnX d c.lamp) := (checkL_ok h1).lamp
  unfold agL
  rw [truL_all (CaseL.up h0).1, truL_all (CaseL.up h1).1]
  show ((allT (turnX d c.lamp) c.windings).filter fun t => okW (wantF (wantM c.sights)) 0 (courseL (turnX d c.lamp) c.windings t)).map (fun t => (t, courseL (turnX d c.lamp) c.windings t)) = _
  rw [allT_turn, List.filter_map, List.map_map, List.map_map]
  have hmem : ∀ t ∈ allT c.lamp c.windings, courseL (turnX d c.lamp) c.windings (turnT d t) = courseL c.lamp c.windings t := fun t ht =>
    courseL_turn hR hY hd (mem_allT.1 ht).start
  have hf : (allT c.lamp c.windings).filter ((fun t => okW (wantF (wantM c.sights)) 0 (courseL (turnX d c.lamp) c.windings t)) ∘ turnT d) = (allT c.lamp c.windings).filter fun t => okW (wantF (wantM c.sights)) 0 (courseL c.lamp c.windings t) := by
    refine List.filter_congr fun t ht => ?_
    show okW _ 0 (courseL (turnX d c.lamp) c.windings (turnT d t)) = _
    rw [hmem t ht]
  rw [hf]
  refine List.map_congr_left fun t ht => ?_
  show (turnT d t, courseL (turnX d c.lamp) c.windings (turnT d t)) = (turnT d t, courseL c.lamp c.windings t)
  rw [hmem t (List.mem_filter.1 ht).1]

theorem failures_turn {d : Int} {ps : List LPhase} : ∀ {l : List (LTruth × List Bool)}, failuresL ps (l.map (turnP d)) = (failuresL ps l).map (turnK d)
  | [] => rfl
  | p :: r => by
    have ih := failures_turn (d := d) (ps := ps) (l := r)
    unfold failuresL at ih ⊢
    rw [List.map_cons, List.filterMap_cons, List.filterMap_cons, ih]
    rw [show (turnP d p).2 = p.2 from rfl]
    by_cases h : failsL p.2 ps < 0
    · rw [if_pos h, if_pos h]
    · rw [if_neg h, if_neg h]; rfl

theorem least_turn {d : Int} : ∀ {l : List (LTruth × Int)} {o : Option (LTruth × Int)}, (l.map (turnK d)).foldl leastS (o.map (turnK d)) = (l.foldl leastS o).map (turnK d)
  | [], _ => rfl
  | y :: r, o => by
    rw [List.map_cons, List.foldl_cons, List.foldl_cons, ← least_turn]
    congr 1
    cases o with
    | none => rfl
    | some x =>
      show (if y.2 - x.2 < 0 then some (turnK d y) else some (turnK d x)) = Option.map (turnK d) (if y.2 - x.2 < 0 then some y else some x)
      split <;> rfl

/-- Kept: the same, with the start turned. -/
theorem kept_turn {c : LCase} {d : Int} (h0 : (checkL c).2.2 = 0) (h1 : (checkL (turnC d c)).2.2 = 0) (hd : -c.lamp.drum ≤ d ∧ d ≤ c.lamp.drum) {l : LLight} (hl : (lightsF [l]).2 = 0) :
    keptE (turnC d c) l = keptE c l ∧ (keptE c l = 0 → keptX (turnC d c) l = turnK d (keptX c l)) ∧ (keptE c l ≠ 0 → keptX (turnC d c) l = keptX c l) := by
  have e0 : entrE c [l] = 0 := by unfold entrE; rw [if_pos h0]; exact hl
  have e1 : entrE (turnC d c) [l] = 0 := by unfold entrE; rw [if_pos h1]; exact hl
  have hX : leastX (failuresL l.phases (agL (turnC d c))) = (leastX (failuresL l.phases (agL c))).map (turnK d) := by
    rw [agL_turn h0 h1 hd, failures_turn]
    exact least_turn (o := none)
  unfold keptE keptX
  rw [if_pos e0, if_pos e1, if_pos e0, if_pos e1, hX]
  rw [agL_turn h0 h1 hd]
  cases hA : agL c with
  | nil =>
    have hn : leastX (failuresL l.phases []) = none := rfl
    simp [hn]
  | cons p r =>
    cases leastX (failuresL l.phases (p :: r)) with
    | none => simp
    | some x => simp

theorem run_turn {x : LLamp} {d : Int} (hR : LampR x) (hY : LampR (turnX d x)) (hd : -x.drum ≤ d ∧ d ≤ x.drum) {ps : List LPhase} {a v : Int} (ha : 0 ≤ a ∧ a < x.drum) : runV (turnX d x) ps ((a + d) % x.drum) v = runV x ps a v := by
  have h : courseL (turnX d x) [] ⟨(a + d) % x.drum, [v]⟩ = courseL x [] ⟨a, [v]⟩ := courseF_turn hR hY hd ha
  unfold runV
  rw [h]; rfl

theorem long_turn {x : LLamp} {d : Int} (hR : LampR x) (hY : LampR (turnX d x)) (hd : -x.drum ≤ d ∧ d ≤ x.drum) {ps : List LPhase} : longF (turnX d x) ps = longF x ps := by
  obtain ⟨a1, a2⟩ := long_law hR ps
  obtain ⟨b1, b2⟩ := long_law hY ps
  have ra := longF_rng (ps := ps) hR
  have rb : 1 ≤ longF (turnX d x) ps ∧ longF (turnX d x) ps ≤ x.night := longF_rng hY
  have hdr := hR.drum
  have le1 : longF (turnX d x) ps ≤ longF x ps := by
    rcases a2 with h | ⟨a, v, ⟨ha, hv⟩, h⟩
    · omega
    · have := b1 ((a + d) % x.drum) v ⟨⟨Int.emod_nonneg _ (by omega), Int.emod_lt_of_pos _ (by omega)⟩, hv⟩
      rw [run_turn hR hY hd ha] at this
      omega
  have le2 : longF x ps ≤ longF (turnX d x) ps := by
    rcases b2 with h | ⟨a, v, ⟨ha, hv⟩, h⟩
    · have h : longF (turnX d x) ps = x.night := h
      omega
    · have ha : 0 ≤ a ∧ a < x.drum := ha
      have hb : 0 ≤ (a - d) % x.drum ∧ (a - d) % x.drum < x.drum := ⟨Int.emod_nonneg _ (by omega), Int.emod_lt_of_pos _ (by omega)⟩
      have h2 := run_turn hR hY hd (ps := ps) (v := v) hb
      rw [Int.emod_add_emod, Int.sub_add_cancel, Int.emod_eq_of_lt ha.1 ha.2, h] at h2
      have := a1 _ v ⟨hb, hv⟩
      omega
  omega
end Go.PX

namespace Go.PX
open Go.Proofs

/- A box that holds an own slice becomes data. -/

theorem dsOf_inj : ∀ l : List D, dsOf (inj l) = some l
  | [] => rfl
  | a :: r => by
    show (match dsOf (inj r) with | some l => some (a :: l) | none => none) = _
    rw [dsOf_inj r]

theorem get_frzA {X : Option Obj} {g : Nat → Option DO} {id sz n : Nat} {A : List D} {d : D} (h1 : X = some (replO g (.box (.vv (inj A ++ [.sl id sz 0 n]))))) (hv : viewV g (.sl id sz 0 n) = some d) : X = some (.box (.dd (A ++ [d]))) := by
  rw [h1]
  have : replL g (inj A ++ [.sl id sz 0 n]) = inj (A ++ [d]) := by
    rw [replL_append, replL_inj, inj_append]
    simp [replL, repl, hv, inj]
  simp [replO, this, dsOf_inj]
end Go.PX

namespace Go.PX
open Go.Proofs

/- Lamp: LampTurned, walked. -/

theorem replB {g : Nat → Option DO} {id sz n : Nat} {A B : List D} {d : D} (hv : viewV g (.sl id sz 0 n) = some d) : replL g (inj A ++ .sl id sz 0 n :: inj B) = inj (A ++ d :: B) := by
  rw [replL_append, replL_inj, inj_append]
  simp [replL, repl, hv, inj, replL_inj]

theorem get_frzB {X : Option Obj} {g : Nat → Option DO} {id sz n : Nat} {A B : List D} {d : D} (h1 : X = some (replO g (.box (.vv (inj A ++ .sl id sz 0 n :: inj B))))) (hv : viewV g (.sl id sz 0 n) = some d) : X = some (.box (.dd (A ++ d :: B))) := by
  rw [h1]
  simp [replO, replB hv, dsOf_inj]

theorem args_frzB {g : Nat → Option DO} {id sz n : Nat} {A B : List D} {d : D} {vs : List V} (h1 : vs = [.agg (inj A ++ .sl id sz 0 n :: inj B)]) (hv : viewV g (.sl id sz 0 n) = some d) : replL g vs = [.d (.agg (A ++ d :: B))] := by
  rw [h1]
  show [mkAgg (replL g (inj A ++ .sl id sz 0 n :: inj B))] = _
  rw [replB hv]
  simp [mkAgg, dsOf_inj]

def headT (c : LCase) (d : Int) : List D := [i64 (c.lamp.start.lo + d), i64 (c.lamp.start.hi + d), i64 c.lamp.speed.lo, i64 c.lamp.speed.hi, i64 c.lamp.slow, i64 c.lamp.night, intsD c.windings, sightsD c.sights]

theorem show_len2 (c : LCase) (t : LTruth) : (showL c t).length < 1000000 := by
  have key : ∀ (r : List Bool) (s : Int) (p : Bool) (A : List Span), (showF r s p A).length ≤ A.length + r.length := by
    intro r
    induction r with
    | nil => intro s p A; exact Nat.le_refl _
    | cons b r ih =>
      intro s p A
      rw [showF]
      refine Nat.le_trans (ih _ _ _) ?_
      rw [List.length_cons]
      have := setHi_len A s
      split
      · split
        · omega
        · simp; omega
      · omega
  unfold showL
  split
  · rename_i h1
    have h0 : (checkL c).2.2 = 0 := by
      by_cases h : (checkL c).2.2 = 0
      · exact h
      · unfold showE at h1; rw [if_neg h] at h1; exact absurd h1 h
    have h2 := (courseL_len (w := c.windings) (t := t) (checkL_ok h0).lamp).2.1
    have := key (courseL c.lamp c.windings t) 0 false []
    simp only [List.length_nil] at this
    omega
  · simp

theorem least_mem {l : List (LTruth × Int)} {x : LTruth × Int} (hX : leastX l = some x) : x ∈ l := by
  have key : ∀ (l : List (LTruth × Int)) (o : Option (LTruth × Int)) (x : LTruth × Int), l.foldl leastS o = some x → o = some x ∨ x ∈ l := by
    intro l
    induction l with
    | nil => exact fun o x h => .inl h
    | cons y r ih =>
      intro o x h
      rw [List.foldl_cons] at h
      rcases ih _ _ h with h | h
      · unfold leastS at h
        cases o with
        | none => cases h; right; simp
        | some z =>
          simp only at h
          split at h
          · cases h; right; simp
          · exact .inl h
      · right; simp [h]
  rcases key _ none x hX with h | h
  · cases h
  · exact h

theorem kept_truth {c : LCase} {l : LLight} (h0 : entrE c [l] = 0) : keptX c l = (⟨0, []⟩, 0) ∨ TruthR c (keptX c l).1 := by
  unfold keptX
  rw [if_pos h0]
  have h00 := (entr_ok h0).1
  cases hX : leastX (failuresL l.phases (agL c)) with
  | none => exact .inl rfl
  | some x =>
    right
    have hx := least_mem hX
    unfold failuresL at hx
    obtain ⟨p, hp, hpx⟩ := List.mem_filterMap.1 hx
    split at hpx
    · cases hpx
    · cases hpx
      exact (agL_ok h00 hp).1

set_option maxHeartbeats 2000000 in
theorem la14 (c : LCase) (l : LLight) (x : List Int) (hx : ∀ y ∈ x, 0 ≤ y ∧ y ≤ 255) : FnV Try.prog 14 [c.d, l.d, bytesD x] (.bool true) := by
  refine fnV_of mixed tysOk Try.func14 rfl (ft := ft14) 3 (by decide +kernel) (by rfl) fun {σ} Y st => ?_
  conv => whnf
  refine CallA_v (la47 c) rfl rfl ?_
  conv => whnf
  cases hv : valL c with
  | false =>
    conv => whnf
    refine CallA_v (la22) rfl rfl ?_
    conv => whnf
    exact RetA_view 0 rfl ⟨⟨rfl, rfl⟩, rfl⟩
  | true =>
    have h0 : (checkL c).2.2 = 0 := of_decide_eq_true hv
    have hR := checkL_ok h0
    conv => whnf
    refine CallA_view (ds := [lightsD [l]]) (la52 [l]) rfl 1 rfl ?_
    cases hlv : lightsB [l] with
    | false =>
      conv => whnf
      refine CallA_v (la22) rfl rfl ?_
      conv => whnf
      exact RetA_view 0 rfl ⟨⟨rfl, rfl⟩, rfl⟩
    | true =>
      have hl0 : (lightsF [l]).2 = 0 := of_decide_eq_true hlv
      have hdr := hR.lamp.drum
      have hli := hR.lamp.lit
      have hll := hR.lamp.lits
      have hst := hR.lamp.start
      have t5 := turn_bd hx 5
      have m1 := Int.tmod_nonneg c.lamp.drum t5.1
      have m2 := Int.tmod_lt_of_pos (turnF x 5) (b := c.lamp.drum) (by omega)
      have hq : c.lamp.drum.tdiv 2 = c.lamp.drum / 2 := Int.tdiv_eq_ediv_of_nonneg (by omega)
      conv => whnf
      refine DrawCall_v (ds := [bytesD x, i64 (5 : Nat)]) (la51 x hx 5) rfl rfl ?_
      conv => whnf
      refine chk_i (decide_eq_true (by omega)) ?_
      conv => whnf
      refine arith_in (wrap_i64 (by rw [hq]; omega)) ?_
      conv => whnf
      obtain ⟨d, hd⟩ : ∃ d, (turnF x 5).tmod c.lamp.drum - c.lamp.drum.tdiv 2 = d := ⟨_, rfl⟩
      have hdb : -c.lamp.drum ≤ d ∧ d ≤ c.lamp.drum := by rw [← hd, hq]; omega
      refine arith_to d hd (wrap_i64 (by omega)) ?_
      conv => whnf
      clear hd m1 m2 hq t5
      refine arith_in (wrap_i64 (by (try dsimp only); omega)) ?_
      conv => whnf
      refine arith_in (wrap_i64 (by (try dsimp only); omega)) ?_
      conv => whnf
      refine CallA_v (fn28 _ _) rfl rfl ?_
      conv => whnf
      have hbl : (turnC d c).lamp.lit = c.lamp.lit.map (turnS d) := rfl
      have hbc : (turnC d c).cells = [i64 c.lamp.drum] ++ spansD (turnC d c).lamp.lit :: headT c d := rfl
      refine LoopA_i (T := tys) tysOk (by exact drawsB_spec mixed tysOk (by decide +kernel)) c.lamp.lit (fun i (acc : List Span) => ⟨[(2, .d (bytesD x)), (3, .ptr 3 0), (4, .ptr 4 0), (6, .d (.bool false)), (7, .d (i64 d)), (8, .ptr 8 0), (9, .d (i64 i))], [(3, .box (.dd c.cells)), (4, .box (.dd l.cells)), (8, .box (.vv (inj [i64 c.lamp.drum] ++ .sl 96 2 0 acc.length :: inj (headT c d)))), (96, .arr 2 (.dd (acc.map Span.cells)))], st⟩)
        (fun i r acc => acc.length ≤ i ∧ (turnC d c).lamp.lit = acc ++ r.map (turnS d)) [] ((Wk.bornAtD 8 96 2 [i64 c.lamp.drum] (headT c d) rfl rfl rfl rfl rfl).trans (Wk.sub ⟨(by first | rfl | (simp only [List.length_map]; rfl) | simp [PX.get]), (by first | rfl | (simp only [List.length_map]; rfl) | simp [PX.get]), (by first | rfl | (simp only [List.length_map]; rfl) | simp [PX.get]), (by first | rfl | (simp only [List.length_map]; rfl) | simp [PX.get]), (by first | rfl | (simp only [List.length_map]; rfl) | simp [PX.get]), (by first | rfl | (simp only [List.length_map]; rfl) | simp [PX.get]), (by first | rfl | (simp only [List.length_map]; rfl) | simp [PX.get]), trivial⟩ ⟨(by first | rfl | (simp only [List.length_map]; rfl) | simp [PX.get]), (by first | rfl | (simp only [List.length_map]; rfl) | simp [PX.get]), (by first | rfl | (simp only [List.length_map]; rfl) | simp [PX.get]), (by first | rfl | (simp only [List.length_map]; rfl) | simp [PX.get]), trivial⟩)) ⟨by simp, hbl⟩ ?_ ?_
      · rintro i s r acc hs hlt hr ⟨hal, he⟩
        have hsi := hli s (List.mem_of_getElem? hs)
        rw [List.map_cons] at he
        conv => whnf
        refine brk_i (fun _ => ?_) (fun h => absurd hlt (by have := of_decide_eq_false h; simp at this; omega))
        conv => whnf
        refine elemK_nat hs ?_
        conv => whnf
        refine arith_in (wrap_i64 (by (try dsimp only); omega)) ?_
        conv => whnf
        refine elemK_nat hs ?_
        conv => whnf
        refine arith_in (wrap_i64 (by (try dsimp only); omega)) ?_
        conv => whnf
        refine DrawCall_v (fn28 _ _) rfl rfl ?_
        conv => whnf
        refine ownK_whole rfl ?_
        conv => whnf
        refine ownK_whole (by simp [Els.len]) ?_
        conv => whnf
        refine chk_i (decide_eq_true (by
          show ((acc.map Span.cells).length + 1) * 16 ≤ 140737488355328
          rw [List.length_map]; omega)) ?_
        conv => whnf
        refine arith_in (wrap_i64 (by (try dsimp only); omega)) ?_
        conv => whnf
        refine ⟨acc ++ [turnS d s], ⟨by simp; omega, by simpa using he⟩, Wk.sub ⟨rfl, rfl, rfl, rfl, rfl, rfl, rfl, trivial⟩ ⟨rfl, rfl, ?_, ?_, trivial⟩⟩
        · show some (Obj.box (.vv (inj [i64 c.lamp.drum] ++ .sl 96 2 0 ((acc.map Span.cells).length + 1) :: inj (headT c d)))) = _
          simp
        · show some (Obj.arr 2 (Els.dd (acc.map Span.cells ++ [(turnS d s).cells]))) = _
          simp
      · rintro acc ⟨_, he⟩
        have he : (turnC d c).lamp.lit = acc := by simpa using he
        conv => whnf
        refine brk_i (fun h => absurd h (by simp)) (fun _ => ?_)
        conv => whnf
        refine CallA_frz 1 [96] ?_
        have hK := fun h1 => kept_turn h0 h1 hdb hl0
        have hCL := fun (hY : LampR (turnX d c.lamp)) t ht => courseL_turn hR.lamp hY hdb (w := c.windings) (t := t) ht
        have hLT := fun (hY : LampR (turnX d c.lamp)) => long_turn hR.lamp hY hdb (ps := l.phases)
        refine CallA_sub (e' := [(2, .d (bytesD x)), (3, .ptr 3 0), (4, .ptr 4 0), (6, .d (.bool false)), (7, .d (i64 d)), (8, .ptr 8 0)]) (h' := [(3, .box (.dd c.cells)), (4, .box (.dd l.cells)), (8, .box (.dd (turnC d c).cells))]) (args' := [.d (turnC d c).d]) ⟨rfl, rfl, rfl, rfl, rfl, rfl, trivial⟩
          ⟨rfl, rfl, ?_, trivial⟩ ?_ ?_
        · rw [hbc, he]
          refine get_frzB (A := [i64 c.lamp.drum]) (B := headT c d) rfl ?_
          exact viewV_sl (es := acc.map Span.cells) rfl (by simp)
        · have hdc : (turnC d c).d = .agg ([i64 c.lamp.drum] ++ spansD acc :: headT c d) := by rw [LCase.d, hbc, he]
          rw [hdc]
          exact args_frzB (A := [i64 c.lamp.drum]) (B := headT c d) rfl (viewV_sl (es := acc.map Span.cells) rfl (by simp))
        refine CallA_v (la47 (turnC d c)) rfl rfl ?_
        conv => whnf
        cases hv2 : valL (turnC d c) with
        | false =>
          conv => whnf
          refine CallA_v (la22) rfl rfl ?_
          conv => whnf
          exact RetA_view 0 rfl ⟨⟨rfl, rfl⟩, rfl⟩
        | true =>
          have h1 : (checkL (turnC d c)).2.2 = 0 := of_decide_eq_true hv2
          have hY : LampR (turnX d c.lamp) := (checkL_ok h1).lamp
          obtain ⟨k1, k2, k3⟩ := hK h1
          have hT := truthX_ok hR hx
          have hCL := fun t ht => hCL hY t ht
          have hLT := hLT hY
          have hst2 : 0 ≤ c.lamp.start.lo + d ∧ c.lamp.start.lo + d ≤ c.lamp.start.hi + d ∧ c.lamp.start.hi + d ≤ c.lamp.drum - 1 := hY.start
          have hEA : ∀ y : LLamp, (wheelF y).2.2 = 0 → longE y l = 0 := fun y h => by
            have : (checkL (aloneC y)).2.2 = 0 := by rw [check_alone]; exact h
            unfold longE entrE; rw [if_pos this]; exact hl0
          have hW : ∀ z : LCase, (checkL z).2.2 = 0 → (wheelF z.lamp).2.2 = 0 := fun z h => by
            unfold checkL at h
            by_cases h1 : (wheelF z.lamp).2.2 = 0
            · exact h1
            · rw [if_neg h1] at h; exact absurd h h1
          have e1 := hEA _ (hW _ h0)
          have e2 : longE (turnC d c).lamp l = 0 := hEA _ (hW _ h1)
          have v1 : longV c.lamp l = longF c.lamp l.phases := by unfold longV; rw [if_pos e1]
          have v2 : longV (turnC d c).lamp l = longF c.lamp l.phases := by unfold longV; rw [if_pos e2]; exact hLT
          conv => whnf
          refine CallA_v (la48 c hR x hx) rfl rfl ?_
          conv => whnf
          generalize truthX c x = t at hT ⊢
          have hTs := hT.start
          have hT2 : TruthR (turnC d c) (turnT d t) := ⟨by
            show c.lamp.start.lo + d ≤ t.start + d ∧ t.start + d ≤ c.lamp.start.hi + d
            omega, hT.len, hT.speed⟩
          have s1 : showE c t = 0 := by unfold showE; rw [if_pos h0]; exact truth_iff.2 hT
          have s2 : showE (turnC d c) (turnT d t) = 0 := by unfold showE; rw [if_pos h1]; exact truth_iff.2 hT2
          have s3 : showL (turnC d c) (turnT d t) = showL c t := by
            unfold showL
            rw [if_pos s1, if_pos s2]
            show showF (courseL (turnX d c.lamp) c.windings (turnT d t)) 0 false [] = _
            rw [hCL t hTs]
          have hsl := show_len2 c t
          have hE0 : entrE c [l] = 0 := by unfold entrE; rw [if_pos h0]; exact hl0
          have hwd := hR.winds
          have hks : (keptX c l).1.speeds.length < 1000000 ∧ (-1000 ≤ (keptX c l).1.start ∧ (keptX c l).1.start ≤ 1000) := by
            rcases kept_truth hE0 with h | h
            · rw [h]; exact ⟨by simp, by simp⟩
            · have h1 := h.len
              have h2 := h.start
              omega
          refine arith_in (wrap_i64 (by (try dsimp only); omega)) ?_
          conv => whnf
          refine CallA_v (la19 c t) rfl rfl ?_
          conv => whnf
          rw [s1]
          refine CallA_v (ds := [(turnC d c).d, (turnT d t).d]) (la19 (turnC d c) (turnT d t)) rfl rfl ?_
          rw [s2, s3]
          refine CallA_v (la32 c l) rfl rfl ?_
          conv => whnf
          refine CallA_v (la32 (turnC d c) l) rfl rfl ?_
          conv => whnf
          refine CallA_v (la37 c.lamp l) rfl rfl ?_
          conv => whnf
          rw [e1, v1]
          refine CallA_v (la37 (turnC d c).lamp l) rfl rfl ?_
          conv => whnf
          rw [e2, v2]
          rw [k1]
          generalize keptX (turnC d c) l = X2 at k2 k3 ⊢
          generalize keptX c l = X at k2 k3 hks ⊢
          generalize keptE c l = E at k2 k3 ⊢
          generalize showL c t = S at hsl ⊢
          generalize longF c.lamp l.phases = n
          obtain ⟨u, s⟩ := X
          simp only at hks
          refine brk_i (fun h5 => ?_) (fun h5 => ?_)
          · have h5 : E = 0 := of_decide_eq_true h5
            obtain rfl := k2 h5
            subst h5
            conv => whnf
            refine arith_in (wrap_i64 (by (try dsimp only); omega)) ?_
            conv => whnf
            refine CallA_v (fn45 S S hsl) rfl rfl ?_
            conv => whnf
            rw [show decide (S = S) = true by simp]
            conv => whnf
            refine CallA_v (ds := [(turnT d u).d, (turnT d u).d]) (la34 (turnT d u) (turnT d u) hks.1) rfl rfl ?_
            rw [show decide (turnT d u = turnT d u) = true by simp]
            conv => whnf
            refine brk_i (fun _ => ?_) (fun h => absurd h (by simp [turnK]))
            conv => whnf
            refine brk_i (fun _ => ?_) (fun h => absurd h (by simp))
            conv => whnf
            skip
            refine CallA_v (la22) rfl rfl ?_
            conv => whnf
            exact RetA_view 0 rfl ⟨⟨rfl, rfl⟩, rfl⟩
          · have h5 : E ≠ 0 := of_decide_eq_false h5
            obtain rfl := k3 h5
            conv => whnf
            refine CallA_v (fn45 S S hsl) rfl rfl ?_
            conv => whnf
            rw [show decide (S = S) = true by simp]
            conv => whnf
            refine CallA_v (ds := [u.d, u.d]) (la34 u u hks.1) rfl rfl ?_
            rw [show decide (u = u) = true by simp]
            conv => whnf
            refine brk_i (fun _ => ?_) (fun h => absurd h (by simp [turnK]))
            conv => whnf
            refine brk_i (fun _ => ?_) (fun h => absurd h (by simp))
            conv => whnf
            refine brk_i (fun _ => ?_) (fun h => absurd h (by simp)) <;> conv => whnf
            refine CallA_v (la22) rfl rfl ?_
            conv => whnf
            exact RetA_view 0 rfl ⟨⟨rfl, rfl⟩, rfl⟩
end Go.PX
