import Derived.Test.YtiflhdanniajdaaPxQ
import Derived.Test.YtiflhdanniajdaaPxP
set_option linter.all false
set_option maxRecDepth 10000
namespace Go.PX
open Go.Proofs

/- Lamp: the reference: Agree; it has the program's truths. -/

def litsD (l : List (List Bool)) : D := .vs (l.map fun r => [boolsD r])

def agR (c : LCase) (l : List LTruth) : List (LTruth × List Bool) := (l.map fun t => (t, courseL c.lamp c.windings t)).filter fun p => decide (wrongF p.2 c.sights 0 = [])

def agreeRD (l : List (LTruth × List Bool)) : D := .tup [truthsD (l.map (·.1)), litsD (l.map (·.2))]

theorem agR_cons (c : LCase) (t : LTruth) (r : List LTruth) : agR c (t :: r) = if wrongF (courseL c.lamp c.windings t) c.sights 0 = [] then (t, courseL c.lamp c.windings t) :: agR c r else agR c r := by
  unfold agR
  rw [List.map_cons, List.filter_cons]
  by_cases h : wrongF (courseL c.lamp c.windings t) c.sights 0 = []
  · simp [h]
  · simp [h]

set_option maxHeartbeats 1000000 in
theorem la78 (c : LCase) (hR : CaseL c) : FnV Try.prog 78 [c.d] (agreeRD (agR c (allT c.lamp c.windings))) := by
  refine fnV_of mixed tysOk Try.func78 rfl (ft := ft78) 1 (by decide +kernel) (by rfl) fun {σ} Y st => ?_
  conv => whnf
  refine CallA_v (la86 c hR) rfl rfl ?_
  conv => whnf
  have hlen := allT_len hR
  have hT : ∀ t ∈ allT c.lamp c.windings, TruthR c t := fun t ht => mem_allT.1 ht
  generalize allT c.lamp c.windings = L at hlen hT
  have hn := hR.lamp.night
  have hs8 := hR.sights
  refine LoopA_i (T := tys) tysOk (by exact drawsB_spec mixed tysOk (by decide +kernel)) L (fun i (acc : List (LTruth × List Bool)) => ⟨[(1, .ptr 1 0), (4, .d (truthsD L)), (5, .sl 38 2 0 acc.length), (6, .sl 42 1 0 acc.length), (7, .d (i64 i))], [(1, .box (.dd c.cells)), (38, .arr 2 (.dd (acc.map fun p => p.1.cells))), (42, .arr 1 (.dd (acc.map fun p => [boolsD p.2])))], st⟩)
    (fun i r acc => agR c L = acc ++ agR c r ∧ acc.length ≤ i ∧ ∀ t ∈ r, TruthR c t) [] ((Wk.born 5 38 2 rfl rfl rfl).trans ((Wk.born 6 42 1 rfl rfl rfl).trans (Wk.sub ⟨(by first | rfl | (simp only [List.length_map]; rfl) | simp [PX.get]), (by first | rfl | (simp only [List.length_map]; rfl) | simp [PX.get]), (by first | rfl | (simp only [List.length_map]; rfl) | simp [PX.get]), (by first | rfl | (simp only [List.length_map]; rfl) | simp [PX.get]), (by first | rfl | (simp only [List.length_map]; rfl) | simp [PX.get]), trivial⟩ ⟨(by first | rfl | (simp only [List.length_map]; rfl) | simp [PX.get]), (by first | rfl | (simp only [List.length_map]; rfl) | simp [PX.get]), (by first | rfl | (simp only [List.length_map]; rfl) | simp [PX.get]), trivial⟩))) ⟨rfl, by simp, hT⟩ ?_ ?_
  · intro i t r acc hx hi hr ⟨he, hal, hTr⟩
    rw [agR_cons] at he
    have ht := hTr t (by simp)
    have hrest : ∀ t ∈ r, TruthR c t := fun t ht => hTr t (by simp [ht])
    obtain ⟨k1, k2, k3⟩ := courseL_len (w := c.windings) (t := t) hR.lamp
    conv => whnf
    refine brk_i (fun _ => ?_) (fun h => absurd hi (by simpa using h))
    conv => whnf
    refine elemK_nat hx ?_
    conv => whnf
    refine DrawCall_v (la50 c.lamp c.windings t (CrsR.of hR ht)) rfl rfl ?_
    conv => whnf
    refine CallA_v (la87 c.sights (courseL c.lamp c.windings t) (by omega) (fun s hs => by have := hR.sight s hs; omega)) rfl rfl ?_
    conv => whnf
    generalize courseL c.lamp c.windings t = lit at he k1 k2 k3
    by_cases hw : wrongF lit c.sights 0 = []
    · rw [if_pos hw] at he
      refine brk_i (fun _ => ?_) (fun h => absurd h (by simp [hw]))
      conv => whnf
      refine elemK_nat hx ?_
      conv => whnf
      refine ownK_whole rfl ?_
      conv => whnf
      refine ownK_whole (by simp [Els.len]) ?_
      conv => whnf
      refine chk_i (decide_eq_true (by
        show ((acc.map fun p => p.1.cells).length + 1) * 32 ≤ 140737488355328
        rw [List.length_map]; omega)) ?_
      conv => whnf
      refine ownK_whole rfl ?_
      conv => whnf
      refine ownK_whole (by simp [Els.len]) ?_
      conv => whnf
      refine chk_i (decide_eq_true (by
        show ((acc.map fun p => [boolsD p.2]).length + 1) * 24 ≤ 140737488355328
        rw [List.length_map]; omega)) ?_
      conv => whnf
      refine arith_in (wrap_i64 (by (try dsimp only); omega)) ?_
      conv => whnf
      refine ⟨acc ++ [(t, lit)], ⟨by rw [he]; simp, by simp; omega, hrest⟩, Wk.sub ⟨rfl, rfl, ?_, ?_, rfl, trivial⟩ ⟨rfl, ?_, ?_, trivial⟩⟩
      · show some (V.sl 38 2 0 ((acc.map fun p => p.1.cells).length + 1)) = _
        simp
      · show some (V.sl 42 1 0 ((acc.map fun p => [boolsD p.2]).length + 1)) = _
        simp
      · show some (Obj.arr 2 (Els.dd ((acc.map fun p => p.1.cells) ++ [t.cells]))) = _
        simp
      · show some (Obj.arr 1 (Els.dd ((acc.map fun p => [boolsD p.2]) ++ [[boolsD lit]]))) = _
        simp
    · rw [if_neg hw] at he
      refine brk_i (fun h => absurd h (by simp [hw])) (fun _ => ?_)
      conv => whnf
      refine arith_in (wrap_i64 (by (try dsimp only); omega)) ?_
      conv => whnf
      exact ⟨acc, ⟨he, by omega, hrest⟩, (Wk.sub ⟨(by first | rfl | (simp only [List.length_map]; rfl) | simp [PX.get]), (by first | rfl | (simp only [List.length_map]; rfl) | simp [PX.get]), (by first | rfl | (simp only [List.length_map]; rfl) | simp [PX.get]), (by first | rfl | (simp only [List.length_map]; rfl) | simp [PX.get]), (by first | rfl | (simp only [List.length_map]; rfl) | simp [PX.get]), trivial⟩ ⟨(by first | rfl | (simp only [List.length_map]; rfl) | simp [PX.get]), (by first | rfl | (simp only [List.length_map]; rfl) | simp [PX.get]), (by first | rfl | (simp only [List.length_map]; rfl) | simp [PX.get]), trivial⟩)⟩
  · intro acc ⟨he, hal, _⟩
    rw [show agR c [] = [] from rfl, List.append_nil] at he
    rw [he]
    conv => whnf
    refine brk_i (fun h => absurd h (by simp)) (fun _ => ?_)
    conv => whnf
    refine RetA_view 1 (ds := [truthsD (acc.map (·.1)), litsD (acc.map (·.2))]) ?_ ⟨⟨rfl, rfl⟩, rfl⟩
    exact viewL_cons (viewV_sl' rfl (by simp [Function.comp_def]) (by simp)) (viewL_cons (viewV_sl' rfl (by simp [Function.comp_def]) (by simp)) rfl)
end Go.PX

namespace Go.PX
open Go.Proofs

/- Lamp: the reference's truths that agree are the program's. -/

/-- The reference's truths that agree, and what they show, are the program's. -/
theorem agR_agL {c : LCase} (h0 : (checkL c).2.2 = 0) : agR c (allT c.lamp c.windings) = agL c := by
  have hR := checkL_ok h0
  unfold agR agL
  rw [truL_all (CaseL.up h0).1, List.filter_map]
  congr 1
  refine List.filter_congr fun t ht => ?_
  show decide (wrongF (courseL c.lamp c.windings t) c.sights 0 = []) = okW (wantF (wantM c.sights)) 0 (courseL c.lamp c.windings t)
  refine (agree_same fun s hs => ?_).symm
  have h1 := hR.sight s hs
  have h2 := (courseL_len (w := c.windings) (t := t) hR.lamp).2.2
  omega

theorem la78' (c : LCase) (h0 : (checkL c).2.2 = 0) : FnV Try.prog 78 [c.d] (agreeRD (agL c)) := FnV.cast (la78 c (checkL_ok h0)) (by rw [agR_agL h0])
end Go.PX

namespace Go.PX
open Go.Proofs

/- Lamp: the reference: lighted, Fails, Kept. -/

theorem la91 (l : LLight) (e : Int) : FnV Try.prog 91 [l.d, i64 e] (i64 (if e = 0 then (lightsF [l]).2 else e)) := by
  refine fnV_of mixed tysOk Try.func91 rfl (ft := ft91) 2 (by decide +kernel) (by rfl) fun {σ} Y st => ?_
  conv => whnf
  refine brk_i (fun h0 => ?_) (fun h0 => ?_)
  · have h0 : e = 0 := by simpa using h0
    rw [if_pos h0]
    conv => whnf
    refine CallA_view (la18 [l]) rfl 1 rfl ?_
    conv => whnf
    exact RetA_view 0 rfl ⟨⟨rfl, rfl⟩, rfl⟩
  · have h0 : ¬ e = 0 := by simpa using h0
    rw [if_neg h0]
    conv => whnf
    exact RetA_view 0 rfl ⟨⟨rfl, rfl⟩, rfl⟩

theorem entr_lighted (c : LCase) (l : LLight) : (if (checkL c).2.2 = 0 then (lightsF [l]).2 else (checkL c).2.2) = entrE c [l] := rfl

set_option maxHeartbeats 1000000 in
theorem la31 (c : LCase) (l : LLight) (t : LTruth) : FnV Try.prog 31 [c.d, l.d, t.d] (.tup [i64 (failV c l t), i64 (failE c l t)]) := by
  refine fnV_of mixed tysOk Try.func31 rfl (ft := ft31) 3 (by decide +kernel) (by rfl) fun {σ} Y st => ?_
  conv => whnf
  refine CallA_v (la16 c) rfl rfl ?_
  conv => whnf
  refine DrawCall_v (la91 l (checkL c).2.2) rfl rfl ?_
  rw [entr_lighted]
  conv => whnf
  refine DrawCall_v (la74 c t (entrE c [l]) (fun h => by have := (checkL_ok (entr_ok h).1).winds; omega)) rfl rfl ?_
  rw [show askE c t (entrE c [l]) = failE c l t from rfl]
  conv => whnf
  by_cases h1 : failE c l t = 0
  case neg =>
    have hv : failV c l t = 0 := by unfold failV; rw [if_neg h1]
    rw [hv]
    refine brk_i (fun _ => ?_) (fun h2 => absurd h2 (by simp [h1]))
    conv => whnf
    exact RetA_view 0 rfl ⟨⟨rfl, rfl⟩, rfl⟩
  have h0 : entrE c [l] = 0 := by
    by_cases h : entrE c [l] = 0
    · exact h
    · unfold failE at h1; rw [if_neg h] at h1; exact absurd h1 h
  obtain ⟨h00, hl⟩ := entr_ok h0
  have hR := checkL_ok h00
  have hT : TruthR c t := truth_ok (by unfold failE at h1; rwa [if_pos h0] at h1)
  have hv : failV c l t = failsL (courseL c.lamp c.windings t) l.phases := by unfold failV; rw [if_pos h1]
  rw [hv]
  refine brk_i (fun h2 => absurd h2 (by simp [h1])) (fun _ => ?_)
  conv => whnf
  refine DrawCall_v (la50 c.lamp c.windings t (CrsR.of hR hT)) rfl rfl ?_
  conv => whnf
  obtain ⟨k1, k2, _⟩ := courseL_len (w := c.windings) (t := t) hR.lamp
  refine DrawCall_v (la54 (courseL c.lamp c.windings t) l.phases k1 k2 (hl l (by simp)).ph) rfl rfl ?_
  conv => whnf
  rw [h1]
  exact RetA_view 0 rfl ⟨⟨rfl, rfl⟩, rfl⟩

/-- The first of the least failures: which truth, and its second. -/
def keptJ (ps : List LPhase) (L : List (LTruth × List Bool)) (night : Int) (i : Nat) (w v : Int) : Prop :=
  (w = -1 ∧ v = night ∧ leastX (failuresL ps (L.take i)) = none) ∨ ∃ j p, w = (j : Nat) ∧ j < i ∧ L[j]? = some p ∧ leastX (failuresL ps (L.take i)) = some (p.1, v) ∧ failsL p.2 ps = v ∧ 0 ≤ v ∧ v < night

theorem failures_snoc (ps : List LPhase) (A : List (LTruth × List Bool)) (p : LTruth × List Bool) : failuresL ps (A ++ [p]) = if failsL p.2 ps < 0 then failuresL ps A else failuresL ps A ++ [(p.1, failsL p.2 ps)] := by
  unfold failuresL
  rw [List.filterMap_append]
  by_cases h : failsL p.2 ps < 0
  · simp [h]
  · simp [h]

theorem leastX_snoc (A : List (LTruth × Int)) (x : LTruth × Int) : leastX (A ++ [x]) = leastS (leastX A) x := by
  unfold leastX
  rw [List.foldl_append]; rfl

theorem kept_step {ps : List LPhase} {L : List (LTruth × List Bool)} {night : Int} {i : Nat} {w v : Int} {p : LTruth × List Bool} (hx : L[i]? = some p) (hlt : failsL p.2 ps < night) (h : keptJ ps L night i w v) :
    keptJ ps L night (i + 1) (if 0 ≤ failsL p.2 ps ∧ failsL p.2 ps < v then (i : Int) else w) (if 0 ≤ failsL p.2 ps ∧ failsL p.2 ps < v then failsL p.2 ps else v) := by
  have htk : L.take (i + 1) = L.take i ++ [p] := by rw [List.take_succ, hx]; rfl
  unfold keptJ at h ⊢
  rw [htk, failures_snoc]
  by_cases h0 : failsL p.2 ps < 0
  · rw [if_pos h0, if_neg (by omega), if_neg (by omega)]
    rcases h with h | ⟨j, q, h1, h2, h3⟩
    · exact .inl h
    · exact .inr ⟨j, q, h1, by omega, h3⟩
  · rw [if_neg h0, leastX_snoc]
    rcases h with ⟨h1, h2, h3⟩ | ⟨j, q, h1, h2, h3, h4, h5, h6, h7⟩
    · rw [h3, if_pos ⟨by omega, by omega⟩, if_pos ⟨by omega, by omega⟩]
      exact .inr ⟨i, p, rfl, by omega, hx, rfl, rfl, by omega, hlt⟩
    · rw [h4, leastS]
      by_cases h8 : failsL p.2 ps < v
      · rw [if_pos ⟨by omega, h8⟩, if_pos ⟨by omega, h8⟩, if_pos (by simp only; omega)]
        exact .inr ⟨i, p, rfl, by omega, hx, rfl, rfl, by omega, hlt⟩
      · rw [if_neg (by omega), if_neg (by omega), if_neg (by simp only; omega)]
        exact .inr ⟨j, q, h1, by omega, h3, rfl, h5, h6, h7⟩

theorem failsL_lt {l : List LPhase} {lit : List Bool} (h : lit ≠ []) : failsL lit l < lit.length := by
  unfold failsL
  cases lit with
  | nil => exact absurd rfl h
  | cons b r =>
    have := failsF_rng (l := l) (r := r) (b := b) (A := initA b l.length) (s := 1)
    simp only [List.length_cons]
    omega

set_option maxHeartbeats 1000000 in
theorem la33 (c : LCase) (l : LLight) : FnV Try.prog 33 [c.d, l.d] (keptD c l) := by
  refine fnV_of mixed tysOk Try.func33 rfl (ft := ft33) 2 (by decide +kernel) (by rfl) fun {σ} Y st => ?_
  conv => whnf
  refine CallA_v (la16 c) rfl rfl ?_
  conv => whnf
  refine CallA_v (la91 l (checkL c).2.2) rfl rfl ?_
  conv => whnf
  rw [entr_lighted]
  by_cases h0 : entrE c [l] = 0
  case neg =>
    have he : keptE c l = entrE c [l] := by unfold keptE; rw [if_neg h0]
    have hv : keptX c l = (⟨0, []⟩, 0) := by unfold keptX; rw [if_neg h0]
    rw [keptD, he, hv]
    refine brk_i (fun _ => ?_) (fun h1 => absurd h1 (by simp [h0]))
    conv => whnf
    exact RetA_viewR 0 rfl rfl ⟨⟨rfl, rfl⟩, rfl⟩
  obtain ⟨h00, hl⟩ := entr_ok h0
  have hl := hl l (by simp)
  have hR := checkL_ok h00
  have hn := hR.lamp.night
  have he : keptE c l = (if agL c = [] then 9 else if leastX (failuresL l.phases (agL c)) = none then 4 else 0) := by unfold keptE; rw [if_pos h0]
  have hv : keptX c l = (leastX (failuresL l.phases (agL c))).getD (⟨0, []⟩, 0) := by unfold keptX; rw [if_pos h0]
  rw [keptD, he, hv]
  refine brk_i (fun h1 => absurd h1 (by simp [h0])) (fun _ => ?_)
  conv => whnf
  refine CallA_v (la78' c h00) rfl rfl ?_
  conv => whnf
  have hlit : ∀ p ∈ agL c, p.2.length = c.lamp.night.toNat := fun p hp => (agL_ok h00 hp).2.2
  have hlen := agL_len h00
  generalize agL c = L at hlit hlen
  refine brk_i (fun h1 => ?_) (fun h1 => ?_)
  · have h1 : L = [] := by simpa using h1
    subst h1
    conv => whnf
    exact RetA_viewR 0 rfl rfl ⟨⟨rfl, rfl⟩, rfl⟩
  have h1 : ¬ L = [] := by simpa using h1
  rw [if_neg h1]
  conv => whnf
  refine LoopA_i (T := tys) tysOk (by exact drawsB_spec mixed tysOk (by decide +kernel)) L (fun i (q : Int × Int) => ⟨[(2, .ptr 2 0), (3, .ptr 3 0), (4, .ptr 4 0), (10, .d (truthsD (L.map (·.1)))), (11, .d (litsD (L.map (·.2)))), (12, .d (i64 q.1)), (13, .d (i64 q.2)), (14, .d (i64 i))], [(2, .box (.dd c.cells)), (3, .box (.dd l.cells)), (4, .box (.dd [i64 0, .nils]))], st⟩)
    (fun i r q => keptJ l.phases L c.lamp.night i q.1 q.2) (-1, c.lamp.night) (Wk.sub ⟨(by first | rfl | (simp only [List.length_map]; rfl) | simp [PX.get]), (by first | rfl | (simp only [List.length_map]; rfl) | simp [PX.get]), (by first | rfl | (simp only [List.length_map]; rfl) | simp [PX.get]), (by first | rfl | (simp only [List.length_map]; rfl) | simp [PX.get]), (by first | rfl | (simp only [List.length_map]; rfl) | simp [PX.get]), (by first | rfl | (simp only [List.length_map]; rfl) | simp [PX.get]), (by first | rfl | (simp only [List.length_map]; rfl) | simp [PX.get]), (by first | rfl | (simp only [List.length_map]; rfl) | simp [PX.get]), trivial⟩ ⟨(by first | rfl | (simp only [List.length_map]; rfl) | simp [PX.get]), (by first | rfl | (simp only [List.length_map]; rfl) | simp [PX.get]), (by first | rfl | (simp only [List.length_map]; rfl) | simp [PX.get]), trivial⟩) (.inl ⟨rfl, rfl, rfl⟩) ?_ ?_
  · rintro i p r ⟨w, v⟩ hx hi hr hj
    simp only at hj
    have hp := hlit p (List.mem_of_getElem? hx)
    have hne : p.2 ≠ [] := by intro h; rw [h] at hp; simp at hp; omega
    have hlt := failsL_lt (l := l.phases) hne
    have hj2 := kept_step hx (by omega) hj
    have hx2 : (L.map (·.2))[i]? = some p.2 := by rw [List.getElem?_map, hx]; rfl
    conv => whnf
    refine brk_i (fun _ => ?_) (fun h => absurd hi (by simpa using h))
    conv => whnf
    refine elemK_nat hx2 ?_
    conv => whnf
    refine DrawCall_v (la54 p.2 l.phases hne (by omega) hl.ph) rfl rfl ?_
    conv => whnf
    generalize failsL p.2 l.phases = f at hj2 hlt
    by_cases h2 : 0 ≤ f
    · rw [show decide (0 ≤ f) = true from decide_eq_true h2]
      conv => whnf
      refine brk_i (fun h3 => ?_) (fun h3 => ?_)
      · have h3 : f < v := by simpa using h3
        rw [if_pos ⟨h2, h3⟩, if_pos ⟨h2, h3⟩] at hj2
        conv => whnf
        refine arith_in (wrap_i64 (by (try dsimp only); omega)) ?_
        conv => whnf
        exact ⟨((i : Int), f), hj2, (Wk.sub ⟨(by first | rfl | (simp only [List.length_map]; rfl) | simp [PX.get]), (by first | rfl | (simp only [List.length_map]; rfl) | simp [PX.get]), (by first | rfl | (simp only [List.length_map]; rfl) | simp [PX.get]), (by first | rfl | (simp only [List.length_map]; rfl) | simp [PX.get]), (by first | rfl | (simp only [List.length_map]; rfl) | simp [PX.get]), (by first | rfl | (simp only [List.length_map]; rfl) | simp [PX.get]), (by first | rfl | (simp only [List.length_map]; rfl) | simp [PX.get]), (by first | rfl | (simp only [List.length_map]; rfl) | simp [PX.get]), trivial⟩ ⟨(by first | rfl | (simp only [List.length_map]; rfl) | simp [PX.get]), (by first | rfl | (simp only [List.length_map]; rfl) | simp [PX.get]), (by first | rfl | (simp only [List.length_map]; rfl) | simp [PX.get]), trivial⟩)⟩
      · have h3 : ¬ f < v := by simpa using h3
        rw [if_neg (fun h => h3 h.2), if_neg (fun h => h3 h.2)] at hj2
        conv => whnf
        refine arith_in (wrap_i64 (by (try dsimp only); omega)) ?_
        conv => whnf
        exact ⟨(w, v), hj2, (Wk.sub ⟨(by first | rfl | (simp only [List.length_map]; rfl) | simp [PX.get]), (by first | rfl | (simp only [List.length_map]; rfl) | simp [PX.get]), (by first | rfl | (simp only [List.length_map]; rfl) | simp [PX.get]), (by first | rfl | (simp only [List.length_map]; rfl) | simp [PX.get]), (by first | rfl | (simp only [List.length_map]; rfl) | simp [PX.get]), (by first | rfl | (simp only [List.length_map]; rfl) | simp [PX.get]), (by first | rfl | (simp only [List.length_map]; rfl) | simp [PX.get]), (by first | rfl | (simp only [List.length_map]; rfl) | simp [PX.get]), trivial⟩ ⟨(by first | rfl | (simp only [List.length_map]; rfl) | simp [PX.get]), (by first | rfl | (simp only [List.length_map]; rfl) | simp [PX.get]), (by first | rfl | (simp only [List.length_map]; rfl) | simp [PX.get]), trivial⟩)⟩
    · rw [show decide (0 ≤ f) = false from decide_eq_false h2]
      rw [if_neg (fun h => h2 h.1), if_neg (fun h => h2 h.1)] at hj2
      conv => whnf
      refine arith_in (wrap_i64 (by (try dsimp only); omega)) ?_
      conv => whnf
      exact ⟨(w, v), hj2, (Wk.sub ⟨(by first | rfl | (simp only [List.length_map]; rfl) | simp [PX.get]), (by first | rfl | (simp only [List.length_map]; rfl) | simp [PX.get]), (by first | rfl | (simp only [List.length_map]; rfl) | simp [PX.get]), (by first | rfl | (simp only [List.length_map]; rfl) | simp [PX.get]), (by first | rfl | (simp only [List.length_map]; rfl) | simp [PX.get]), (by first | rfl | (simp only [List.length_map]; rfl) | simp [PX.get]), (by first | rfl | (simp only [List.length_map]; rfl) | simp [PX.get]), (by first | rfl | (simp only [List.length_map]; rfl) | simp [PX.get]), trivial⟩ ⟨(by first | rfl | (simp only [List.length_map]; rfl) | simp [PX.get]), (by first | rfl | (simp only [List.length_map]; rfl) | simp [PX.get]), (by first | rfl | (simp only [List.length_map]; rfl) | simp [PX.get]), trivial⟩)⟩
  · rintro ⟨w, v⟩ hj
    simp only at hj
    unfold keptJ at hj
    rw [List.take_length] at hj
    conv => whnf
    refine brk_i (fun h => absurd h (by simp)) (fun _ => ?_)
    conv => whnf
    rcases hj with ⟨h2, h3, h4⟩ | ⟨j, p, h2, h3, h4, h5, h6, h7, h8⟩
    · subst h2
      rw [h4]
      conv => whnf
      exact RetA_viewR 0 rfl rfl ⟨⟨rfl, rfl⟩, rfl⟩
    · subst h2
      rw [h5]
      have hx1 : (L.map (·.1))[j]? = some p.1 := by rw [List.getElem?_map, h4]; rfl
      rw [show decide (((j : Nat) : Int) < 0) = false from decide_eq_false (by omega)]
      conv => whnf
      refine elemK_nat hx1 ?_
      conv => whnf
      exact RetA_view 0 rfl ⟨⟨rfl, rfl⟩, rfl⟩
end Go.PX

namespace Go.PX
open Go.Proofs

/- Lamp: the reference: Run, Longest, Wind. -/

theorem FnV.arg {P : Program} {f : FuncId} {ds ds' : List D} {res : D} (h : FnV P f ds res) (hr : ∀ (F : Nat → Nat) (w : World) (l : List Value), RepDL F w ds' l → RepDL F w ds l) : FnV P f ds' res :=
  fun {_} Y s => ⟨(h Y s).enter, fun cx hY L F vals w hh hv => (h Y s).run cx hY L F vals w hh (RepVL.inj.2 (hr _ _ _ (RepVL.inj.1 hv)))⟩

theorem la50n (x : LLamp) (t : LTruth) (hr : CrsR x [] t) : FnV Try.prog 50 [x.d, .nils, t.d] (boolsD (courseL x [] t)) :=
  FnV.arg (fun {_} => la50 x [] t hr) (fun F w l h => by
    obtain ⟨a, l1, rfl, ha, b, l2, rfl, hb, h2⟩ := h
    exact ⟨a, _, rfl, ha, b, _, rfl, RepD.relax .nils b hb, h2⟩)

def runV (x : LLamp) (ps : List LPhase) (a v : Int) : Int := if failsL (courseL x [] ⟨a, [v]⟩) ps < 0 then x.night else failsL (courseL x [] ⟨a, [v]⟩) ps

theorem CrsR.one {x : LLamp} (h : LampR x) {a v : Int} (ha : 0 ≤ a ∧ a < x.drum) (hv : 1 ≤ v ∧ v ≤ 40) : CrsR x [] ⟨a, [v]⟩ := ⟨h, by simp, ha, rfl, fun s hs => by rw [List.mem_singleton.1 hs]; exact hv⟩

set_option maxHeartbeats 1000000 in
theorem la57 (x : LLamp) (l : LLight) (a v : Int) (h : LampR x) (hl : LightR l) (ha : 0 ≤ a ∧ a < x.drum) (hv : 1 ≤ v ∧ v ≤ 40) : FnV Try.prog 57 [x.d, l.d, i64 a, i64 v] (i64 (runV x l.phases a v)) := by
  refine fnV_of mixed tysOk Try.func57 rfl (ft := ft57) 4 (by decide +kernel) (by rfl) fun {σ} Y st => ?_
  conv => whnf
  refine DrawCall_fz (la50n x ⟨a, [v]⟩ (CrsR.one h ha hv)) 1 rfl rfl ?_
  conv => whnf
  obtain ⟨k1, k2, k3⟩ := courseL_len (w := []) (t := ⟨a, [v]⟩) h
  refine DrawCall_v (la54 (courseL x [] ⟨a, [v]⟩) l.phases k1 k2 hl.ph) rfl rfl ?_
  conv => whnf
  unfold runV
  refine brk_i (fun h1 => ?_) (fun h1 => ?_)
  · have h1 : failsL (courseL x [] ⟨a, [v]⟩) l.phases < 0 := by simpa using h1
    rw [if_pos h1]
    conv => whnf
    exact RetA_view 0 rfl ⟨⟨rfl, rfl⟩, rfl⟩
  · have h1 : ¬ failsL (courseL x [] ⟨a, [v]⟩) l.phases < 0 := by simpa using h1
    rw [if_neg h1]
    conv => whnf
    exact RetA_view 0 rfl ⟨⟨rfl, rfl⟩, rfl⟩

theorem courseF_any {x : LLamp} {w sp : List Int} : ∀ {k : Nat} {s a b : Int} {n : Nat}, courseF (anyStart x) w sp k s a b n = courseF x w sp k s a b n
  | 0, _, _, _, _ => rfl
  | k + 1, s, a, b, n => by
    rw [courseF, courseF, courseF_any, courseF_any]; rfl

theorem check_alone (x : LLamp) : (checkL (aloneC x)).2.2 = (wheelF x).2.2 := by
  unfold checkL aloneC
  by_cases h : (wheelF x).2.2 = 0
  · simp [h, windF, sightF]
  · simp [h]

def runsP (x : LLamp) : List (Int × Int) := (upto x.drum.toNat 0).flatMap fun a => (spanL x.speed).map fun v => (a, v)
def longR (x : LLamp) (ps : List LPhase) : Int := (runsP x).foldl (fun n p => min n (runV x ps p.1 p.2)) x.night

theorem anyC_eq {x : LLamp} (h : LampR x) : anyC x = (runsP x).map fun p => (⟨p.1, [p.2]⟩, courseL x [] ⟨p.1, [p.2]⟩) := by
  unfold anyC
  rw [truL_all (upF_nil h.any)]
  have h1 : (allT (anyStart x) []).filter (fun t => okW trueF 0 (courseL (anyStart x) [] t)) = allT (anyStart x) [] := by
    rw [List.filter_eq_self]
    exact fun t _ => okW_true _ _
  rw [h1]
  have h2 : allT (anyStart x) [] = (runsP x).map fun p => (⟨p.1, [p.2]⟩ : LTruth) := by
    unfold allT runsP
    have e1 : spanL (anyStart x).start = upto x.drum.toNat 0 := by
      show upto (x.drum - 1 + 1 - 0).toNat 0 = _
      congr 1
      have := h.drum
      omega
    have e2 : speedsL (anyStart x).speed (([] : List Int).length + 1) = (spanL x.speed).map fun v => [v] := by
      show (spanL x.speed).flatMap (fun v => [[]].map (v :: ·)) = _
      generalize spanL x.speed = q
      induction q with
      | nil => rfl
      | cons v r ih => rw [List.flatMap_cons, ih]; rfl
    rw [e1, e2, List.map_flatMap]
    congr 1
    funext a
    rw [List.map_map, List.map_map]
    rfl
  rw [h2, List.map_map]
  refine List.map_congr_left fun p _ => ?_
  show (_, courseF (anyStart x) _ _ _ _ _ _ _) = (_, courseF x _ _ _ _ _ _ _)
  rw [courseF_any]
  rfl

theorem longF_ref {x : LLamp} (h : LampR x) (ps : List LPhase) : longF x ps = longR x ps := by
  unfold longF longR
  rw [anyC_eq h, List.foldl_map]
  have key : ∀ (q : List (Int × Int)) (n : Int), n ≤ x.night → q.foldl (fun n p => longStep ps n (⟨p.1, [p.2]⟩, courseL x [] ⟨p.1, [p.2]⟩)) n = q.foldl (fun n p => min n (runV x ps p.1 p.2)) n := by
    intro q
    induction q with
    | nil => exact fun _ _ => rfl
    | cons p r ih =>
      intro n hn
      rw [List.foldl_cons, List.foldl_cons]
      have : longStep ps n (⟨p.1, [p.2]⟩, courseL x [] ⟨p.1, [p.2]⟩) = min n (runV x ps p.1 p.2) := by
        unfold longStep runV
        simp only
        by_cases h1 : failsL (courseL x [] ⟨p.1, [p.2]⟩) ps < 0
        · rw [if_neg (by omega), if_pos h1]; omega
        · rw [if_pos (by omega), if_neg h1]
      rw [this]
      exact ih _ (by omega)
  exact key _ _ (Int.le_refl _)

set_option maxHeartbeats 1000000 in
theorem la38 (x : LLamp) (l : LLight) : FnV Try.prog 38 [x.d, l.d] (.tup [i64 (longV x l), i64 (longE x l)]) := by
  refine fnV_of mixed tysOk Try.func38 rfl (ft := ft38) 2 (by decide +kernel) (by rfl) fun {σ} Y st => ?_
  conv => whnf
  refine CallA_v (la62 x) rfl rfl ?_
  conv => whnf
  refine CallA_v (la91 l (wheelF x).2.2) rfl rfl ?_
  conv => whnf
  have he : (if (wheelF x).2.2 = 0 then (lightsF [l]).2 else (wheelF x).2.2) = longE x l := by
    unfold longE entrE
    rw [check_alone]
  rw [he]
  by_cases h0 : longE x l = 0
  case neg =>
    have hv : longV x l = 0 := by unfold longV; rw [if_neg h0]
    rw [hv]
    refine brk_i (fun _ => ?_) (fun h1 => absurd h1 (by simp [h0]))
    conv => whnf
    exact RetA_view 0 rfl ⟨⟨rfl, rfl⟩, rfl⟩
  obtain ⟨hR, hl⟩ := long_ok h0
  have hv : longV x l = longR x l.phases := by unfold longV; rw [if_pos h0, longF_ref hR]
  rw [hv]
  unfold longR runsP
  have hd := hR.drum
  have hs := hR.speed
  refine brk_i (fun h1 => absurd h1 (by simp [h0])) (fun _ => ?_)
  conv => whnf
  refine LoopA_p (T := tys) tysOk (by exact drawsB_spec mixed tysOk (by decide +kernel)) (α := Nat × Int)
    (fun p => ⟨[(2, .ptr 2 0), (3, .ptr 3 0), (9, .d (i64 p.2)), (10, .d (i64 p.1))], [(2, .box (.dd x.cells)), (3, .box (.dd l.cells))], st⟩)
    (fun p => p.1 ≤ x.drum.toNat ∧ ((upto x.drum.toNat 0).flatMap fun a => (spanL x.speed).map fun v => (a, v)).foldl (fun n p => min n (runV x l.phases p.1 p.2)) x.night = ((upto (x.drum.toNat - p.1) p.1).flatMap fun a => (spanL x.speed).map fun v => (a, v)).foldl (fun n p => min n (runV x l.phases p.1 p.2)) p.2)
    (fun p => x.drum.toNat - p.1) (0, x.night) (Wk.sub ⟨(by first | rfl | (simp only [List.length_map]; rfl) | simp [PX.get]), (by first | rfl | (simp only [List.length_map]; rfl) | simp [PX.get]), (by first | rfl | (simp only [List.length_map]; rfl) | simp [PX.get]), (by first | rfl | (simp only [List.length_map]; rfl) | simp [PX.get]), trivial⟩ ⟨(by first | rfl | (simp only [List.length_map]; rfl) | simp [PX.get]), (by first | rfl | (simp only [List.length_map]; rfl) | simp [PX.get]), trivial⟩) ⟨Nat.zero_le _, rfl⟩ ?_
  rintro ⟨j, n0⟩ ⟨hj, hb⟩
  simp only at hj hb
  conv => whnf
  refine brk_i (fun h4 => ?_) (fun h4 => ?_)
  case refine_2 =>
    have h4 : ¬ (j : Int) < x.drum := by simpa using h4
    rw [show x.drum.toNat - j = 0 by omega, upto, List.flatMap_nil, List.foldl_nil] at hb
    rw [hb]
    conv => whnf
    rw [h0]
    exact RetA_view 0 rfl ⟨⟨rfl, rfl⟩, rfl⟩
  have h4 : (j : Int) < x.drum := by simpa using h4
  obtain ⟨m, hm⟩ : ∃ m, x.drum.toNat - j = m + 1 := ⟨x.drum.toNat - j - 1, by omega⟩
  rw [hm, upto, List.flatMap_cons, List.foldl_append, List.foldl_map] at hb
  conv => whnf
  refine LoopA_p (T := tys) tysOk (by exact drawsB_spec mixed tysOk (by decide +kernel)) (α := Nat × Int)
    (fun p => ⟨[(2, .ptr 2 0), (3, .ptr 3 0), (9, .d (i64 p.2)), (10, .d (i64 j)), (11, .d (i64 (x.speed.lo + p.1)))], [(2, .box (.dd x.cells)), (3, .box (.dd l.cells))], st⟩)
    (fun p => p.1 ≤ (x.speed.hi + 1 - x.speed.lo).toNat ∧ (spanL x.speed).foldl (fun n v => min n (runV x l.phases j v)) n0 = (upto ((x.speed.hi + 1 - x.speed.lo).toNat - p.1) (x.speed.lo + p.1)).foldl (fun n v => min n (runV x l.phases j v)) p.2)
    (fun p => (x.speed.hi + 1 - x.speed.lo).toNat - p.1) (0, n0) ?wk ?pr ?_
  case wk => exact Wk.sub ⟨rfl, rfl, rfl, rfl, by show some (V.d (i64 x.speed.lo)) = some (V.d (i64 (x.speed.lo + ((0 : Nat) : Int)))); simp, trivial⟩ ⟨rfl, rfl, trivial⟩
  case pr => exact ⟨Nat.zero_le _, by simp [spanL]⟩
  rintro ⟨i, n1⟩ ⟨hi, hc⟩
  simp only at hi hc
  conv => whnf
  refine brk_i (fun h5 => ?_) (fun h5 => ?_)
  case refine_2 =>
    have h5 : ¬ x.speed.lo + i ≤ x.speed.hi := by simpa using h5
    rw [show (x.speed.hi + 1 - x.speed.lo).toNat - i = 0 by omega, upto, List.foldl_nil] at hc
    rw [hc] at hb
    conv => whnf
    refine arith_to (((j + 1 : Nat) : Int)) (by (try dsimp only); omega) (wrap_i64 (by (try dsimp only); omega)) ?_
    conv => whnf
    refine ⟨(j + 1, n1), by simp only; omega, ⟨by simp only; omega, ?_⟩, (Wk.sub ⟨(by first | rfl | (simp only [List.length_map]; rfl) | simp [PX.get]), (by first | rfl | (simp only [List.length_map]; rfl) | simp [PX.get]), (by first | rfl | (simp only [List.length_map]; rfl) | simp [PX.get]), (by first | rfl | (simp only [List.length_map]; rfl) | simp [PX.get]), trivial⟩ ⟨(by first | rfl | (simp only [List.length_map]; rfl) | simp [PX.get]), (by first | rfl | (simp only [List.length_map]; rfl) | simp [PX.get]), trivial⟩)⟩
    simp only
    rw [hb, show x.drum.toNat - (j + 1) = m by omega]
    rfl
  have h5 : x.speed.lo + i ≤ x.speed.hi := by simpa using h5
  obtain ⟨m2, hm2⟩ : ∃ m2, (x.speed.hi + 1 - x.speed.lo).toNat - i = m2 + 1 := ⟨(x.speed.hi + 1 - x.speed.lo).toNat - i - 1, by omega⟩
  rw [hm2, upto, List.foldl_cons] at hc
  conv => whnf
  refine CallA_v (la57 x l j (x.speed.lo + i) hR hl (by omega) (by omega)) rfl rfl ?_
  conv => whnf
  refine arith_to (x.speed.lo + ((i + 1 : Nat) : Int)) (by (try dsimp only); omega) (wrap_i64 (by (try dsimp only); omega)) ?_
  conv => whnf
  refine ⟨(i + 1, min n1 (runV x l.phases j (x.speed.lo + i))), by simp only; omega, ⟨by simp only; omega, ?_⟩, Wk.sub ⟨rfl, rfl, rfl, rfl, rfl, trivial⟩ ⟨rfl, rfl, trivial⟩⟩
  simp only
  rw [hc, show (x.speed.hi + 1 - x.speed.lo).toNat - (i + 1) = m2 by omega, show x.speed.lo + ((i + 1 : Nat) : Int) = x.speed.lo + (i : Int) + 1 by omega]

set_option maxHeartbeats 1000000 in
theorem la40 (x : LLamp) (l : LLight) : FnV Try.prog 40 [x.d, l.d] (.tup [intsD (windV x l), i64 (longE x l)]) := by
  refine fnV_of mixed tysOk Try.func40 rfl (ft := ft40) 2 (by decide +kernel) (by rfl) fun {σ} Y st => ?_
  conv => whnf
  refine CallA_v (la38 x l) rfl rfl ?_
  conv => whnf
  by_cases h0 : longE x l = 0
  case neg =>
    have hv : windV x l = [] := by unfold windV; rw [if_neg h0]
    rw [hv]
    refine brk_i (fun _ => ?_) (fun h1 => absurd h1 (by simp [h0]))
    conv => whnf
    exact RetA_viewR 0 rfl rfl ⟨⟨rfl, rfl⟩, rfl⟩
  have hv : windV x l = windL ((x.night - 1).tdiv (longV x l)).toNat (longV x l) := by unfold windV; rw [if_pos h0]
  have hR := (long_ok h0).1
  have hl := longF_rng (ps := l.phases) hR
  have hlv : longV x l = longF x l.phases := by unfold longV; rw [if_pos h0]
  rw [← hlv] at hl
  rw [hv]
  have hn := hR.night
  refine brk_i (fun h1 => absurd h1 (by simp [h0])) (fun _ => ?_)
  conv => whnf
  rw [Int.tdiv_eq_ediv_of_nonneg (by omega)]
  have hiff : ∀ i : Nat, ((i : Int) + 1) * longV x l < x.night ↔ i < ((x.night - 1) / longV x l).toNat := fun i => by
    have h1 := Int.le_ediv_iff_mul_le (a := (i : Int) + 1) (b := x.night - 1) (c := longV x l) (by omega)
    have h2 : 0 ≤ (x.night - 1) / longV x l := Int.ediv_nonneg (by omega) (by omega)
    omega
  have hq2 : ((x.night - 1) / longV x l).toNat ≤ 200 := by
    have := Int.ediv_le_self (a := x.night - 1) (longV x l) (by omega)
    omega
  generalize ((x.night - 1) / longV x l).toNat = K at hiff hq2
  generalize longV x l = n at hl hiff
  refine LoopA_p (T := tys) tysOk (by exact drawsB_spec mixed tysOk (by decide +kernel)) (α := Nat)
    (fun i => ⟨[(2, .ptr 2 0), (6, .d (i64 n)), (7, .d (i64 (longE x l))), (8, .sl 30 1 0 i), (9, .d (i64 (((i : Int) + 1) * n)))], [(2, .box (.dd x.cells)), (30, .arr 1 (.dd ((windL i n).map fun n => [i64 n])))], st⟩) (fun i => i ≤ K) (fun i => K - i) 0 ((Wk.born 8 30 1 rfl rfl rfl).trans (Wk.sub ⟨rfl, rfl, rfl, rfl, by show some (V.d (i64 n)) = some (V.d (i64 ((((0 : Nat) : Int) + 1) * n))); simp, trivial⟩ ⟨rfl, rfl, trivial⟩)) (Nat.zero_le _) ?_
  intro i hi
  have hil : (windL i n).length = i := windL_len i n
  have hii := hiff i
  conv => whnf
  refine brk_i (fun h1 => ?_) (fun h1 => ?_)
  · have h1 : ((i : Int) + 1) * n < x.night := by simpa using h1
    have h2 := hii.1 h1
    have hm0 : 0 ≤ ((i : Int) + 1) * n := Int.mul_nonneg (by omega) (by omega)
    have hm1 : (((i + 1 : Nat) : Int) + 1) * n = ((i : Int) + 1) * n + n := by
      rw [show (((i + 1 : Nat) : Int) + 1) = ((i : Int) + 1) + 1 by omega, Int.add_mul, Int.one_mul]
    conv => whnf
    refine ownK_whole rfl ?_
    conv => whnf
    refine ownK_whole (by simp [Els.len, hil]) ?_
    conv => whnf
    refine chk_i (decide_eq_true (by
      show (((windL i n).map fun n => [i64 n]).length + 1) * 8 ≤ 140737488355328
      rw [List.length_map]; omega)) ?_
    conv => whnf
    refine arith_to ((((i + 1 : Nat) : Int) + 1) * n) hm1.symm (wrap_i64 (by omega)) ?_
    conv => whnf
    refine ⟨i + 1, (by show K - (i + 1) < K - i; omega), (by show i + 1 ≤ K; omega), Wk.sub ⟨rfl, rfl, rfl, ?_, rfl, trivial⟩ ⟨rfl, ?_, trivial⟩⟩
    · simp [PX.get, Els.len, hil]
    · rw [windL_succ]; simp [PX.get]
  · have h1 : ¬ ((i : Int) + 1) * n < x.night := by simpa using h1
    have h2 : i = K := by
      have : ¬ i < K := fun h => h1 (hii.2 h)
      omega
    subst h2
    conv => whnf
    rw [h0]
    exact RetA_view 1 (ds := [intsD (windL i n), i64 0]) (viewL_cons (viewV_sl rfl (by simp [hil])) rfl) ⟨⟨rfl, rfl⟩, rfl⟩
end Go.PX

namespace Go.PX
open Go.Proofs

/- Lamp: plain law of Longest. -/

theorem mem_runs {x : LLamp} {a v : Int} : (a, v) ∈ runsP x ↔ (0 ≤ a ∧ a < x.drum) ∧ x.speed.lo ≤ v ∧ v ≤ x.speed.hi := by
  unfold runsP
  rw [List.mem_flatMap]
  constructor
  · rintro ⟨b, hb, h⟩
    obtain ⟨u, hu, he⟩ := List.mem_map.1 h
    cases he
    rw [mem_upto] at hb
    rw [mem_spanL] at hu
    omega
  · rintro ⟨h1, h2⟩
    exact ⟨a, mem_upto.2 (by omega), List.mem_map.2 ⟨v, mem_spanL.2 h2, rfl⟩⟩

theorem fold_min {f : Int × Int → Int} : ∀ {l : List (Int × Int)} {m : Int}, l.foldl (fun n p => min n (f p)) m ≤ m ∧ (∀ p ∈ l, l.foldl (fun n p => min n (f p)) m ≤ f p) ∧ (l.foldl (fun n p => min n (f p)) m = m ∨ ∃ p ∈ l, f p = l.foldl (fun n p => min n (f p)) m)
  | [], m => ⟨Int.le_refl _, fun p h => (by cases h), .inl rfl⟩
  | q :: r, m => by
    obtain ⟨h1, h2, h3⟩ := fold_min (f := f) (l := r) (m := min m (f q))
    rw [List.foldl_cons]
    refine ⟨by omega, fun p hp => ?_, ?_⟩
    · rcases List.mem_cons.1 hp with rfl | hp
      · omega
      · exact h2 p hp
    · rcases h3 with h3 | ⟨p, hp, h3⟩
      · rcases Int.le_total m (f q) with h | h
        · left; omega
        · right; exact ⟨q, by simp, by omega⟩
      · exact .inr ⟨p, by simp [hp], h3⟩

/-- What Longest says: each run keeps as long; one no longer. -/
theorem long_law {x : LLamp} (h : LampR x) (ps : List LPhase) : (∀ a v, (0 ≤ a ∧ a < x.drum) ∧ x.speed.lo ≤ v ∧ v ≤ x.speed.hi → longF x ps ≤ runV x ps a v) ∧
    (longF x ps = x.night ∨ ∃ a v, ((0 ≤ a ∧ a < x.drum) ∧ x.speed.lo ≤ v ∧ v ≤ x.speed.hi) ∧ runV x ps a v = longF x ps) := by
  rw [longF_ref h]
  obtain ⟨_, h2, h3⟩ := fold_min (f := fun p => runV x ps p.1 p.2) (l := runsP x) (m := x.night)
  refine ⟨fun a v hav => h2 (a, v) (mem_runs.2 hav), ?_⟩
  rcases h3 with h3 | ⟨⟨a, v⟩, hp, h3⟩
  · exact .inl h3
  · exact .inr ⟨a, v, mem_runs.1 hp, h3⟩
end Go.PX

namespace Go.PX
open Go.Proofs

/- Lamp: LampWider. -/

def wideP (p : LPhase) (a b c d : Int) : LPhase := ⟨⟨max 1 (p.flash.lo - a), min 200 (p.flash.hi + b)⟩, ⟨max 1 (p.dark.lo - c), min 200 (p.dark.hi + d)⟩⟩
def wideAt (b : List Int) (i : Nat) (p : LPhase) : LPhase := wideP p ((turnF b (4 * i)).tmod 4) ((turnF b (4 * i + 1)).tmod 4) ((turnF b (4 * i + 2)).tmod 4) ((turnF b (4 * i + 3)).tmod 4)
def wideL (b : List Int) : List LPhase → Nat → List LPhase
  | [], _ => []
  | p :: r, i => wideAt b i p :: wideL b r (i + 1)
def wideX (b : List Int) (l : LLight) : LLight := ⟨l.name, wideL b l.phases 0⟩

/-- The spans are wider, one by one. -/
def WiderP : List LPhase → List LPhase → Prop
  | [], [] => True
  | p :: r, q :: s => (q.flash.lo ≤ p.flash.lo ∧ p.flash.hi ≤ q.flash.hi ∧ q.dark.lo ≤ p.dark.lo ∧ p.dark.hi ≤ q.dark.hi) ∧ WiderP r s
  | _, _ => False

theorem WiderP.len : ∀ {l m : List LPhase}, WiderP l m → m.length = l.length
  | [], [], _ => rfl
  | p :: r, q :: s, h => by rw [List.length_cons, List.length_cons, WiderP.len h.2]
  | [], _ :: _, h => h.elim
  | _ :: _, [], h => h.elim

theorem WiderP.get : ∀ {l m : List LPhase}, WiderP l m → ∀ {k : Nat} {p : LPhase}, l[k]? = some p → ∃ q, m[k]? = some q ∧ q.flash.lo ≤ p.flash.lo ∧ p.flash.hi ≤ q.flash.hi ∧ q.dark.lo ≤ p.dark.lo ∧ p.dark.hi ≤ q.dark.hi
  | [], [], _, k, p, hk => by cases hk
  | p :: r, q :: s, h, 0, p', hk => by cases hk; exact ⟨q, rfl, h.1⟩
  | p :: r, q :: s, h, k + 1, p', hk => WiderP.get h.2 (k := k) (by simpa using hk)
  | [], _ :: _, h, _, _, _ => h.elim
  | _ :: _, [], h, _, _, _ => h.elim

theorem span_wider {l m : List LPhase} (h : WiderP l m) {x : LState} (hx : x.k.toNat < l.length) : (spanOf m x).lo ≤ (spanOf l x).lo ∧ (spanOf l x).hi ≤ (spanOf m x).hi := by
  obtain ⟨p, hp⟩ : ∃ p, l[x.k.toNat]? = some p := ⟨_, List.getElem?_eq_getElem hx⟩
  obtain ⟨q, hq, h1, h2, h3, h4⟩ := h.get hp
  unfold spanOf
  rw [hp, hq]
  simp only
  split <;> omega

theorem step_wider {l m : List LPhase} (h : WiderP l m) {ch : Bool} {x y : LState} {n : Int} (hn : 1 ≤ n) (hx : StR l n x) (hs : stepS l ch x = some y) (hp : 1 ≤ l.length) : stepS m ch x = some y := by
  have hyR := step_ok hp hn hx hs
  have hxk := hx.k
  have hyk := hyR.k
  have e1 := span_wider h (x := x) (by omega)
  have e2 := span_wider h (x := y) (by omega)
  unfold stepS at hs ⊢
  rw [h.len]
  by_cases h1 : (ch && (!x.first && decide (x.long < (spanOf l x).lo))) = true
  · rw [if_pos h1] at hs; cases hs
  · rw [if_neg h1] at hs
    have h1m : ¬ (ch && (!x.first && decide (x.long < (spanOf m x).lo))) = true := fun h2 => h1 (by
      simp only [Bool.and_eq_true, decide_eq_true_eq] at h2 ⊢
      exact ⟨h2.1, h2.2.1, by omega⟩)
    rw [if_neg h1m]
    generalize (if ch then behindS l.length x else ⟨x.fl, x.k, x.long + 1, x.first⟩) = Y at hs ⊢
    by_cases h2 : Y.long ≤ (spanOf l Y).hi
    · rw [if_pos h2] at hs
      have := Option.some.inj hs
      subst this
      rw [if_pos (by omega)]
    · rw [if_neg h2] at hs; cases hs

theorem fails_wider {l m : List LPhase} (h : WiderP l m) (hp : 1 ≤ l.length) : ∀ {r : List Bool} {b : Bool} {A B : List LState} {s : Int}, 1 ≤ s → (∀ x ∈ A, StR l s x) → (∀ x ∈ A, x ∈ B) →
    failsF m r b B s = -1 ∨ (failsF l r b A s ≠ -1 ∧ failsF l r b A s ≤ failsF m r b B s)
  | [], b, A, B, s, _, _, _ => .inl rfl
  | c :: r, b, A, B, s, hs, hA, hAB => by
    have hsub : ∀ y ∈ A.filterMap (stepS l (c != b)), y ∈ B.filterMap (stepS m (c != b)) := fun y hy => by
      obtain ⟨x, hx, hxy⟩ := List.mem_filterMap.1 hy
      exact List.mem_filterMap.2 ⟨x, hAB x hx, step_wider h hs (hA x hx) hxy hp⟩
    have hA2 : ∀ y ∈ A.filterMap (stepS l (c != b)), StR l (s + 1) y := fun y hy => by
      obtain ⟨x, hx, hxy⟩ := List.mem_filterMap.1 hy
      exact step_ok hp hs (hA x hx) hxy
    rw [failsF, failsF]
    by_cases hB : B.filterMap (stepS m (c != b)) = []
    · have hA0 : A.filterMap (stepS l (c != b)) = [] := List.eq_nil_iff_forall_not_mem.2 fun y hy => by
        have := hsub y hy; rw [hB] at this; cases this
      rw [if_pos hB, if_pos hA0]
      right; omega
    · rw [if_neg hB]
      by_cases hA0 : A.filterMap (stepS l (c != b)) = []
      · rw [if_pos hA0]
        rcases failsF_rng (l := m) (r := r) (b := c) (A := B.filterMap (stepS m (c != b))) (s := s + 1) with h1 | h1
        · exact .inl h1
        · right; omega
      · rw [if_neg hA0]
        exact fails_wider h hp (by omega) hA2 hsub

theorem failsL_wider {l m : List LPhase} (h : WiderP l m) (hp : 1 ≤ l.length) (L : List Bool) : failsL L m = -1 ∨ (failsL L l ≠ -1 ∧ failsL L l ≤ failsL L m) := by
  cases L with
  | nil => exact .inl rfl
  | cons b r =>
    show failsF m r b (initA b m.length) 1 = -1 ∨ (failsF l r b (initA b l.length) 1 ≠ -1 ∧ failsF l r b (initA b l.length) 1 ≤ failsF m r b (initA b m.length) 1)
    rw [h.len]
    exact fails_wider h hp (by omega) init_ok fun x hx => hx

theorem run_wider {x : LLamp} {l m : List LPhase} (hR : LampR x) (h : WiderP l m) (hp : 1 ≤ l.length) {a v : Int} : runV x l a v ≤ runV x m a v := by
  have hL := (courseL_len (w := []) (t := ⟨a, [v]⟩) hR).2.2
  have hn := hR.night
  have h1 := failsL_wider h hp (courseL x [] ⟨a, [v]⟩)
  unfold runV
  generalize courseL x [] ⟨a, [v]⟩ = L at hL h1 ⊢
  have h2 : failsL L l < L.length := by
    cases L with
    | nil => simp at hL; omega
    | cons b r =>
      have := failsF_rng (l := l) (r := r) (b := b) (A := initA b l.length) (s := 1)
      have e : failsL (b :: r) l = failsF l r b (initA b l.length) 1 := rfl
      rw [List.length_cons]
      omega
  have h3 := (failsL_rng (l := l) (lit := L) (by omega)).1
  split <;> split <;> omega

theorem long_wider {x : LLamp} {l m : List LPhase} (hR : LampR x) (h : WiderP l m) (hp : 1 ≤ l.length) : longF x l ≤ longF x m := by
  have h1 := (long_law hR l).1
  have h2 := longF_rng (ps := l) hR
  rcases (long_law hR m).2 with h3 | ⟨a, v, hav, h3⟩
  · omega
  · have := h1 a v hav
    have := run_wider hR h hp (a := a) (v := v)
    omega

theorem four {x : List Int} (hx : ∀ b ∈ x, 0 ≤ b ∧ b ≤ 255) (n : Nat) : 0 ≤ (turnF x n).tmod 4 ∧ (turnF x n).tmod 4 ≤ 3 := by
  have h := turn_bd hx n
  have := Int.tmod_nonneg 4 h.1
  have := Int.tmod_lt_of_pos (turnF x n) (b := 4) (by omega)
  omega

theorem wide_ok {b : List Int} (hb : ∀ x ∈ b, 0 ≤ x ∧ x ≤ 255) : ∀ {l : List LPhase} {i : Nat}, (∀ p ∈ l, phaseIn p = true ∧ phaseUp p = false) → WiderP l (wideL b l i) ∧ ∀ p ∈ wideL b l i, phaseIn p = true ∧ phaseUp p = false
  | [], _, _ => ⟨trivial, fun p h => by cases h⟩
  | p :: r, i, h => by
    obtain ⟨h1, h2⟩ := wide_ok hb (l := r) (i := i + 1) fun q hq => h q (by simp [hq])
    obtain ⟨h3, h4⟩ := h p (by simp)
    have t0 := four hb (4 * i)
    have t1 := four hb (4 * i + 1)
    have t2 := four hb (4 * i + 2)
    have t3 := four hb (4 * i + 3)
    unfold phaseIn at h3
    unfold phaseUp at h4
    simp only [Bool.and_eq_true, inB_iff] at h3
    simp only [Bool.or_eq_false_iff, decide_eq_false_iff_not] at h4
    have hq : ((wideAt b i p).flash.lo ≤ p.flash.lo ∧ p.flash.hi ≤ (wideAt b i p).flash.hi ∧ (wideAt b i p).dark.lo ≤ p.dark.lo ∧ p.dark.hi ≤ (wideAt b i p).dark.hi) ∧
        (1 ≤ (wideAt b i p).flash.lo ∧ (wideAt b i p).flash.hi ≤ 200 ∧ 1 ≤ (wideAt b i p).dark.lo ∧ (wideAt b i p).dark.hi ≤ 200) := by
      unfold wideAt wideP
      simp only
      omega
    refine ⟨⟨hq.1, h1⟩, fun q hq2 => ?_⟩
    rcases List.mem_cons.1 hq2 with rfl | hq2
    · unfold phaseIn phaseUp
      simp only [Bool.and_eq_true, inB_iff, Bool.or_eq_false_iff, decide_eq_false_iff_not]
      omega
    · exact h2 q hq2

theorem wide_lights {b : List Int} (hb : ∀ x ∈ b, 0 ≤ x ∧ x ≤ 255) {l : LLight} (h : (lightsF [l]).2 = 0) : (lightsF [wideX b l]).2 = 0 ∧ WiderP l.phases (wideX b l).phases := by
  obtain ⟨hl, hR⟩ := lightsF_ok h
  have hR := hR l (by simp)
  obtain ⟨h1, h2⟩ := wide_ok hb (l := l.phases) (i := 0) hR.phase
  refine ⟨?_, h1⟩
  have hlen := h1.len
  unfold lightsF at h
  rw [if_pos (by rfl), firstE] at h
  have hl0 : lightF [] l = 0 := by
    by_cases h3 : lightF [] l = 0
    · exact h3
    · rw [if_neg h3] at h; exact absurd h h3
  have hw0 : lightF [] (wideX b l) = 0 := by
    unfold lightF at hl0 ⊢
    split at hl0
    case isFalse => cases hl0
    rename_i h3
    rw [if_pos (show nameF (wideX b l).name = true from h3)]
    simp only [List.any_nil, Bool.false_eq_true, if_false]
    have hps := hR.len
    have e1 : inB ((wideX b l).phases.length : Int) 1 3 = true := by
      rw [inB_iff]
      have : (wideX b l).phases.length = l.phases.length := hlen
      omega
    have e2 : (wideX b l).phases.any (fun p => !phaseIn p) = false := List.any_eq_false.2 fun p hp => by rw [(h2 p hp).1]; simp
    have e3 : (wideX b l).phases.any phaseUp = false := List.any_eq_false.2 fun p hp => by rw [(h2 p hp).2]; simp
    unfold phasesF
    rw [if_pos e1, e2, e3]; rfl
  unfold lightsF
  rw [if_pos (by rfl), firstE, if_pos hw0]; rfl
end Go.PX

namespace Go.PX
open Go.Proofs

/- A box that holds an own slice becomes data. -/

theorem dsOf_inj : ∀ l : List D, dsOf (inj l) = some l
  | [] => rfl
  | a :: r => by
    show (match dsOf (inj r) with | some l => some (a :: l) | none => none) = _
    rw [dsOf_inj r]

theorem get_frzA {X : Option Obj} {g : Nat → Option DO} {id sz n : Nat} {A : List D} {d : D} (h1 : X = some (replO g (.box (.vv (inj A ++ [.sl id sz 0 n]))))) (hv : viewV g (.sl id sz 0 n) = some d) : X = some (.box (.dd (A ++ [d]))) := by
  rw [h1]
  have : replL g (inj A ++ [.sl id sz 0 n]) = inj (A ++ [d]) := by
    rw [replL_append, replL_inj, inj_append]
    simp [replL, repl, hv, inj]
  simp [replO, this, dsOf_inj]
end Go.PX

namespace Go.PX
open Go.Proofs

/- Lamp: LampWider, walked. -/

set_option maxHeartbeats 2000000 in
theorem la13 (c : LCase) (l : LLight) (x b : List Int) (hx : ∀ y ∈ x, 0 ≤ y ∧ y ≤ 255) (hb : ∀ y ∈ b, 0 ≤ y ∧ y ≤ 255) : FnV Try.prog 13 [c.d, l.d, .agg [bytesD x, bytesD b]] (.bool true) := by
  refine fnV_of mixed tysOk Try.func13 rfl (ft := ft13) 3 (by decide +kernel) (by rfl) fun {σ} Y st => ?_
  conv => whnf
  refine CallA_v (la47 c) rfl rfl ?_
  conv => whnf
  cases hv : valL c with
  | false =>
    conv => whnf
    refine CallA_v (la22) rfl rfl ?_
    conv => whnf
    exact RetA_view 0 rfl ⟨⟨rfl, rfl⟩, rfl⟩
  | true =>
    have h0 : (checkL c).2.2 = 0 := of_decide_eq_true hv
    have hR := checkL_ok h0
    conv => whnf
    refine CallA_view (ds := [lightsD [l]]) (la52 [l]) rfl 1 rfl ?_
    cases hlv : lightsB [l] with
    | false =>
      conv => whnf
      refine CallA_v (la22) rfl rfl ?_
      conv => whnf
      exact RetA_view 0 rfl ⟨⟨rfl, rfl⟩, rfl⟩
    | true =>
      have hl0 : (lightsF [l]).2 = 0 := of_decide_eq_true hlv
      obtain ⟨hw0, hwd⟩ := wide_lights hb hl0
      have hlR := (lightsF_ok hl0).2 l (by simp)
      have hps := hlR.len
      have hph := hlR.phase
      have hEn : entrE c [l] = 0 := by unfold entrE; rw [if_pos h0]; exact hl0
      have hEw : entrE c [wideX b l] = 0 := by unfold entrE; rw [if_pos h0]; exact hw0
      have hA0 : (checkL (aloneC c.lamp)).2.2 = 0 := by
        rw [check_alone]
        unfold checkL at h0
        by_cases h1 : (wheelF c.lamp).2.2 = 0
        · exact h1
        · rw [if_neg h1] at h0; exact absurd h0 h1
      have hLn : longE c.lamp l = 0 := by unfold longE entrE; rw [if_pos hA0]; exact hl0
      have hLw : longE c.lamp (wideX b l) = 0 := by unfold longE entrE; rw [if_pos hA0]; exact hw0
      have hlong := long_wider hR.lamp hwd hps.1
      have hT := truthX_ok hR hx
      have hfe : ∀ t, TruthR c t → failE c l t = 0 := fun t ht => by unfold failE; rw [if_pos hEn]; exact truth_iff.2 ht
      have hfw : ∀ t, TruthR c t → failE c (wideX b l) t = 0 := fun t ht => by unfold failE; rw [if_pos hEw]; exact truth_iff.2 ht
      have hfv : ∀ t, TruthR c t → failV c l t = failsL (courseL c.lamp c.windings t) l.phases := fun t ht => by unfold failV; rw [if_pos (hfe t ht)]
      have hfx : ∀ t, TruthR c t → failV c (wideX b l) t = failsL (courseL c.lamp c.windings t) (wideX b l).phases := fun t ht => by unfold failV; rw [if_pos (hfw t ht)]
      have hfm := fun t => failsL_wider hwd hps.1 (courseL c.lamp c.windings t)
      have hVn : longV c.lamp l = longF c.lamp l.phases := by unfold longV; rw [if_pos hLn]
      have hVw : longV c.lamp (wideX b l) = longF c.lamp (wideX b l).phases := by unfold longV; rw [if_pos hLw]
      have hWP : (wideX b l).phases = wideL b l.phases 0 := rfl
      have hWn : (wideX b l).name = l.name := rfl
      generalize wideX b l = w at hw0 hEw hLw hfw hfx hVw hWP hWn hlong hfm hwd
      conv => whnf
      refine LoopA_i (T := tys) tysOk (by exact drawsB_spec mixed tysOk (by decide +kernel)) l.phases (fun i (acc : List LPhase) => ⟨[(3, .ptr 3 0), (4, .ptr 4 0), (5, .ptr 5 0), (6, .d (.bool false)), (7, .ptr 7 0), (8, .d (i64 i))], [(3, .box (.dd c.cells)), (4, .box (.dd l.cells)), (5, .box (.dd [bytesD x, bytesD b])), (7, .box (.vv [.d (.str l.name), .sl 99 4 0 acc.length])), (99, .arr 4 (.dd (acc.map LPhase.cells)))], st⟩)
        (fun i r acc => acc.length ≤ i ∧ wideL b l.phases 0 = acc ++ wideL b r i) [] ((Wk.bornAtD 7 99 4 [.str l.name] [] rfl rfl rfl rfl rfl).trans (Wk.sub ⟨(by first | rfl | (simp only [List.length_map]; rfl) | simp [PX.get]), (by first | rfl | (simp only [List.length_map]; rfl) | simp [PX.get]), (by first | rfl | (simp only [List.length_map]; rfl) | simp [PX.get]), (by first | rfl | (simp only [List.length_map]; rfl) | simp [PX.get]), (by first | rfl | (simp only [List.length_map]; rfl) | simp [PX.get]), (by first | rfl | (simp only [List.length_map]; rfl) | simp [PX.get]), trivial⟩ ⟨(by first | rfl | (simp only [List.length_map]; rfl) | simp [PX.get]), (by first | rfl | (simp only [List.length_map]; rfl) | simp [PX.get]), (by first | rfl | (simp only [List.length_map]; rfl) | simp [PX.get]), (by first | rfl | (simp only [List.length_map]; rfl) | simp [PX.get]), (by first | rfl | (simp only [List.length_map]; rfl) | simp [PX.get]), trivial⟩)) ⟨by simp, rfl⟩ ?_ ?_
      · rintro i p r acc hp hlt hr ⟨hal, he⟩
        rw [wideL] at he
        have hpp := hph p (List.mem_of_getElem? hp)
        have t0 := turn_bd hb (4 * i)
        have t1 := turn_bd hb (4 * i + 1)
        have t2 := turn_bd hb (4 * i + 2)
        have t3 := turn_bd hb (4 * i + 3)
        have f0 := four hb (4 * i)
        have f1 := four hb (4 * i + 1)
        have f2 := four hb (4 * i + 2)
        have f3 := four hb (4 * i + 3)
        have hin := hpp.1
        unfold phaseIn at hin
        simp only [Bool.and_eq_true, inB_iff] at hin
        conv => whnf
        refine brk_i (fun _ => ?_) (fun h => absurd hlt (by have := of_decide_eq_false h; simp at this; omega))
        conv => whnf
        refine elemK_nat hp ?_
        conv => whnf
        refine arith_to (((4 * i : Nat) : Int)) (by (try dsimp only); omega) (wrap_i64 (by (try dsimp only); omega)) ?_
        conv => whnf
        refine DrawCall_v (ds := [bytesD b, i64 (4 * i : Nat)]) (la51 b hb (4 * i)) rfl rfl ?_
        conv => whnf
        refine arith_in (wrap_i64 (by (try dsimp only); omega)) ?_
        conv => whnf
        refine arith_to (((4 * i : Nat) : Int)) (by (try dsimp only); omega) (wrap_i64 (by (try dsimp only); omega)) ?_
        conv => whnf
        refine arith_to (((4 * i + 1 : Nat) : Int)) (by (try dsimp only); omega) (wrap_i64 (by (try dsimp only); omega)) ?_
        conv => whnf
        refine DrawCall_v (ds := [bytesD b, i64 (4 * i + 1 : Nat)]) (la51 b hb (4 * i + 1)) rfl rfl ?_
        conv => whnf
        refine arith_in (wrap_i64 (by (try dsimp only); omega)) ?_
        conv => whnf
        refine DrawCall_v (fn28 _ _) rfl rfl ?_
        conv => whnf
        refine arith_to (((4 * i : Nat) : Int)) (by (try dsimp only); omega) (wrap_i64 (by (try dsimp only); omega)) ?_
        conv => whnf
        refine arith_to (((4 * i + 2 : Nat) : Int)) (by (try dsimp only); omega) (wrap_i64 (by (try dsimp only); omega)) ?_
        conv => whnf
        refine DrawCall_v (ds := [bytesD b, i64 (4 * i + 2 : Nat)]) (la51 b hb (4 * i + 2)) rfl rfl ?_
        conv => whnf
        refine arith_in (wrap_i64 (by (try dsimp only); omega)) ?_
        conv => whnf
        refine arith_to (((4 * i : Nat) : Int)) (by (try dsimp only); omega) (wrap_i64 (by (try dsimp only); omega)) ?_
        conv => whnf
        refine arith_to (((4 * i + 3 : Nat) : Int)) (by (try dsimp only); omega) (wrap_i64 (by (try dsimp only); omega)) ?_
        conv => whnf
        refine DrawCall_v (ds := [bytesD b, i64 (4 * i + 3 : Nat)]) (la51 b hb (4 * i + 3)) rfl rfl ?_
        conv => whnf
        refine arith_in (wrap_i64 (by (try dsimp only); omega)) ?_
        conv => whnf
        refine DrawCall_v (fn28 _ _) rfl rfl ?_
        conv => whnf
        refine ownK_whole rfl ?_
        conv => whnf
        refine ownK_whole (by simp [Els.len]) ?_
        conv => whnf
        refine chk_i (decide_eq_true (by
          show ((acc.map LPhase.cells).length + 1) * 32 ≤ 140737488355328
          rw [List.length_map]; omega)) ?_
        conv => whnf
        refine arith_in (wrap_i64 (by (try dsimp only); omega)) ?_
        conv => whnf
        refine ⟨acc ++ [wideAt b i p], ⟨by simp; omega, by simpa using he⟩, Wk.sub ⟨rfl, rfl, rfl, rfl, rfl, rfl, trivial⟩ ⟨rfl, rfl, rfl, ?_, ?_, trivial⟩⟩
        · show some (Obj.box (.vv [.d (.str l.name), .sl 99 4 0 ((acc.map LPhase.cells).length + 1)])) = _
          simp
        · show some (Obj.arr 4 (Els.dd (acc.map LPhase.cells ++ [(wideAt b i p).cells]))) = _
          simp
      · rintro acc ⟨_, he⟩
        have he : w.phases = acc := by rw [hWP, he]; simp [wideL]
        subst he
        conv => whnf
        refine brk_i (fun h => absurd h (by simp)) (fun _ => ?_)
        conv => whnf
        refine CallA_frz 1 [99] ?_
        refine CallA_sub (e' := [(3, .ptr 3 0), (4, .ptr 4 0), (6, .d (.bool false)), (7, .ptr 7 0)]) (h' := [(3, .box (.dd c.cells)), (4, .box (.dd l.cells)), (7, .box (.dd w.cells))]) (args' := [.d c.d, .d (bytesD x)]) ⟨rfl, rfl, rfl, rfl, trivial⟩
          ⟨rfl, rfl, ?_, trivial⟩ rfl ?_
        · have hwc : w.cells = [.str l.name] ++ [phasesD w.phases] := by rw [LLight.cells, hWn]; rfl
          rw [hwc]
          refine get_frzA (A := [.str l.name]) rfl ?_
          exact viewV_sl (es := w.phases.map LPhase.cells) rfl (by simp)
        refine CallA_v (la48 c hR x hx) rfl rfl ?_
        conv => whnf
        generalize truthX c x = t at hT ⊢
        have q1 := hfe t hT
        have q2 := hfw t hT
        have q3 := hfv t hT
        have q4 := hfx t hT
        have q5 := hfm t
        refine CallA_v (la30 c l t) rfl rfl ?_
        conv => whnf
        rw [q1, q3]
        refine CallA_v (la30 c w t) rfl rfl ?_
        conv => whnf
        rw [q2, q4]
        refine CallA_v (la37 c.lamp l) rfl rfl ?_
        conv => whnf
        rw [hLn, hVn]
        refine CallA_v (la37 c.lamp w) rfl rfl ?_
        conv => whnf
        rw [hLw, hVw]
        generalize failsL (courseL c.lamp c.windings t) l.phases = f1 at q5 ⊢
        generalize failsL (courseL c.lamp c.windings t) w.phases = f2 at q5 ⊢
        generalize longF c.lamp l.phases = n1 at hlong ⊢
        generalize longF c.lamp w.phases = n2 at hlong ⊢
        conv => whnf
        refine brk_i (fun _ => ?_) (fun h => absurd h (by simp; omega))
        conv => whnf
        refine brk_i (fun _ => ?_) (fun h1 => ?_)
        · conv => whnf
          refine CallA_v (la22) rfl rfl ?_
          conv => whnf
          exact RetA_view 0 rfl ⟨⟨rfl, rfl⟩, rfl⟩
        · have h1 : f2 ≠ -1 := of_decide_eq_false h1
          obtain ⟨h2, h3⟩ := q5.resolve_left h1
          conv => whnf
          refine brk_i (fun _ => ?_) (fun h => absurd h (by simp [h2]))
          conv => whnf
          refine brk_i (fun _ => ?_) (fun h => absurd h (by simp; omega))
          conv => whnf
          refine CallA_v (la22) rfl rfl ?_
          conv => whnf
          exact RetA_view 0 rfl ⟨⟨rfl, rfl⟩, rfl⟩
end Go.PX
