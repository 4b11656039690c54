import Derived.Test.YtiflhdanniajdaaPxQ
import Derived.Test.YtiflhdanniajdaaPxP
set_option linter.all false
set_option maxRecDepth 10000
namespace Go.PX
open Go.Proofs

/- Lamp: the reference's truths that agree are the program's. -/

/-- The reference's truths that agree, and what they show, are the program's. -/
theorem agR_agL {c : LCase} (h0 : (checkL c).2.2 = 0) : agR c (allT c.lamp c.windings) = agL c := by
  have hR := checkL_ok h0
  unfold agR agL
  rw [truL_all (CaseL.up h0).1, List.filter_map]
  congr 1
  refine List.filter_congr fun t ht => ?_
  show decide (wrongF (courseL c.lamp c.windings t) c.sights 0 = []) = okW (wantF (wantM c.sights)) 0 (courseL c.lamp c.windings t)
  refine (agree_same fun s hs => ?_).symm
  have h1 := hR.sight s hs
  have h2 := (courseL_len (w := c.windings) (t := t) hR.lamp).2.2
  omega

theorem la78' (c : LCase) (h0 : (checkL c).2.2 = 0) : FnV Try.prog 78 [c.d] (agreeRD (agL c)) := FnV.cast (la78 c (checkL_ok h0)) (by rw [agR_agL h0])
end Go.PX

namespace Go.PX
open Go.Proofs

/- Lamp: the reference: lighted, Fails, Kept. -/

theorem la91 (l : LLight) (e : Int) : FnV Try.prog 91 [l.d, i64 e] (i64 (if e = 0 then (lightsF [l]).2 else e)) := by
  refine fnV_of mixed tysOk Try.func91 rfl (ft := ft91) 2 (by decide +kernel) (by rfl) fun {σ} Y st => ?_
  conv => whnf
  refine brk_i (fun h0 => ?_) (fun h0 => ?_)
  · have h0 : e = 0 := by simpa using h0
    rw [if_pos h0]
    conv => whnf
    refine CallA_view (la18 [l]) rfl 1 rfl ?_
    conv => whnf
    exact RetA_view 0 rfl ⟨⟨rfl, rfl⟩, rfl⟩
  · have h0 : ¬ e = 0 := by simpa using h0
    rw [if_neg h0]
    conv => whnf
    exact RetA_view 0 rfl ⟨⟨rfl, rfl⟩, rfl⟩

theorem entr_lighted (c : LCase) (l : LLight) : (if (checkL c).2.2 = 0 then (lightsF [l]).2 else (checkL c).2.2) = entrE c [l] := rfl

set_option maxHeartbeats 1000000 in
theorem la31 (c : LCase) (l : LLight) (t : LTruth) : FnV Try.prog 31 [c.d, l.d, t.d] (.tup [i64 (failV c l t), i64 (failE c l t)]) := by
  refine fnV_of mixed tysOk Try.func31 rfl (ft := ft31) 3 (by decide +kernel) (by rfl) fun {σ} Y st => ?_
  conv => whnf
  refine CallA_v (la16 c) rfl rfl ?_
  conv => whnf
  refine DrawCall_v (la91 l (checkL c).2.2) rfl rfl ?_
  rw [entr_lighted]
  conv => whnf
  refine DrawCall_v (la74 c t (entrE c [l]) (fun h => by have := (checkL_ok (entr_ok h).1).winds; omega)) rfl rfl ?_
  rw [show askE c t (entrE c [l]) = failE c l t from rfl]
  conv => whnf
  by_cases h1 : failE c l t = 0
  case neg =>
    have hv : failV c l t = 0 := by unfold failV; rw [if_neg h1]
    rw [hv]
    refine brk_i (fun _ => ?_) (fun h2 => absurd h2 (by simp [h1]))
    conv => whnf
    exact RetA_view 0 rfl ⟨⟨rfl, rfl⟩, rfl⟩
  have h0 : entrE c [l] = 0 := by
    by_cases h : entrE c [l] = 0
    · exact h
    · unfold failE at h1; rw [if_neg h] at h1; exact absurd h1 h
  obtain ⟨h00, hl⟩ := entr_ok h0
  have hR := checkL_ok h00
  have hT : TruthR c t := truth_ok (by unfold failE at h1; rwa [if_pos h0] at h1)
  have hv : failV c l t = failsL (courseL c.lamp c.windings t) l.phases := by unfold failV; rw [if_pos h1]
  rw [hv]
  refine brk_i (fun h2 => absurd h2 (by simp [h1])) (fun _ => ?_)
  conv => whnf
  refine DrawCall_v (la50 c.lamp c.windings t (CrsR.of hR hT)) rfl rfl ?_
  conv => whnf
  obtain ⟨k1, k2, _⟩ := courseL_len (w := c.windings) (t := t) hR.lamp
  refine DrawCall_v (la54 (courseL c.lamp c.windings t) l.phases k1 k2 (hl l (by simp)).ph) rfl rfl ?_
  conv => whnf
  rw [h1]
  exact RetA_view 0 rfl ⟨⟨rfl, rfl⟩, rfl⟩

/-- The first of the least failures: which truth, and its second. -/
def keptJ (ps : List LPhase) (L : List (LTruth × List Bool)) (night : Int) (i : Nat) (w v : Int) : Prop :=
  (w = -1 ∧ v = night ∧ leastX (failuresL ps (L.take i)) = none) ∨ ∃ j p, w = (j : Nat) ∧ j < i ∧ L[j]? = some p ∧ leastX (failuresL ps (L.take i)) = some (p.1, v) ∧ failsL p.2 ps = v ∧ 0 ≤ v ∧ v < night

theorem failures_snoc (ps : List LPhase) (A : List (LTruth × List Bool)) (p : LTruth × List Bool) : failuresL ps (A ++ [p]) = if failsL p.2 ps < 0 then failuresL ps A else failuresL ps A ++ [(p.1, failsL p.2 ps)] := by
  unfold failuresL
  rw [List.filterMap_append]
  by_cases h : failsL p.2 ps < 0
  · simp [h]
  · simp [h]

theorem leastX_snoc (A : List (LTruth × Int)) (x : LTruth × Int) : leastX (A ++ [x]) = leastS (leastX A) x := by
  unfold leastX
  rw [List.foldl_append]; rfl

theorem kept_step {ps : List LPhase} {L : List (LTruth × List Bool)} {night : Int} {i : Nat} {w v : Int} {p : LTruth × List Bool} (hx : L[i]? = some p) (hlt : failsL p.2 ps < night) (h : keptJ ps L night i w v) :
    keptJ ps L night (i + 1) (if 0 ≤ failsL p.2 ps ∧ failsL p.2 ps < v then (i : Int) else w) (if 0 ≤ failsL p.2 ps ∧ failsL p.2 ps < v then failsL p.2 ps else v) := by
  have htk : L.take (i + 1) = L.take i ++ [p] := by rw [List.take_succ, hx]; rfl
  unfold keptJ at h ⊢
  rw [htk, failures_snoc]
  by_cases h0 : failsL p.2 ps < 0
  · rw [if_pos h0, if_neg (by omega), if_neg (by omega)]
    rcases h with h | ⟨j, q, h1, h2, h3⟩
    · exact .inl h
    · exact .inr ⟨j, q, h1, by omega, h3⟩
  · rw [if_neg h0, leastX_snoc]
    rcases h with ⟨h1, h2, h3⟩ | ⟨j, q, h1, h2, h3, h4, h5, h6, h7⟩
    · rw [h3, if_pos ⟨by omega, by omega⟩, if_pos ⟨by omega, by omega⟩]
      exact .inr ⟨i, p, rfl, by omega, hx, rfl, rfl, by omega, hlt⟩
    · rw [h4, leastS]
      by_cases h8 : failsL p.2 ps < v
      · rw [if_pos ⟨by omega, h8⟩, if_pos ⟨by omega, h8⟩, if_pos (by simp only; omega)]
        exact .inr ⟨i, p, rfl, by omega, hx, rfl, rfl, by omega, hlt⟩
      · rw [if_neg (by omega), if_neg (by omega), if_neg (by simp only; omega)]
        exact .inr ⟨j, q, h1, by omega, h3, rfl, h5, h6, h7⟩

theorem failsL_lt {l : List LPhase} {lit : List Bool} (h : lit ≠ []) : failsL lit l < lit.length := by
  unfold failsL
  cases lit with
  | nil => exact absurd rfl h
  | cons b r =>
    have := failsF_rng (l := l) (r := r) (b := b) (A := initA b l.length) (s := 1)
    simp only [List.length_cons]
    omega

set_option maxHeartbeats 1000000 in
theorem la33 (c : LCase) (l : LLight) : FnV Try.prog 33 [c.d, l.d] (keptD c l) := by
  refine fnV_of mixed tysOk Try.func33 rfl (ft := ft33) 2 (by decide +kernel) (by rfl) fun {σ} Y st => ?_
  conv => whnf
  refine CallA_v (la16 c) rfl rfl ?_
  conv => whnf
  refine CallA_v (la91 l (checkL c).2.2) rfl rfl ?_
  conv => whnf
  rw [entr_lighted]
  by_cases h0 : entrE c [l] = 0
  case neg =>
    have he : keptE c l = entrE c [l] := by unfold keptE; rw [if_neg h0]
    have hv : keptX c l = (⟨0, []⟩, 0) := by unfold keptX; rw [if_neg h0]
    rw [keptD, he, hv]
    refine brk_i (fun _ => ?_) (fun h1 => absurd h1 (by simp [h0]))
    conv => whnf
    exact RetA_viewR 0 rfl rfl ⟨⟨rfl, rfl⟩, rfl⟩
  obtain ⟨h00, hl⟩ := entr_ok h0
  have hl := hl l (by simp)
  have hR := checkL_ok h00
  have hn := hR.lamp.night
  have he : keptE c l = (if agL c = [] then 9 else if leastX (failuresL l.phases (agL c)) = none then 4 else 0) := by unfold keptE; rw [if_pos h0]
  have hv : keptX c l = (leastX (failuresL l.phases (agL c))).getD (⟨0, []⟩, 0) := by unfold keptX; rw [if_pos h0]
  rw [keptD, he, hv]
  refine brk_i (fun h1 => absurd h1 (by simp [h0])) (fun _ => ?_)
  conv => whnf
  refine CallA_v (la78' c h00) rfl rfl ?_
  conv => whnf
  have hlit : ∀ p ∈ agL c, p.2.length = c.lamp.night.toNat := fun p hp => (agL_ok h00 hp).2.2
  have hlen := agL_len h00
  generalize agL c = L at hlit hlen
  refine brk_i (fun h1 => ?_) (fun h1 => ?_)
  · have h1 : L = [] := by simpa using h1
    subst h1
    conv => whnf
    exact RetA_viewR 0 rfl rfl ⟨⟨rfl, rfl⟩, rfl⟩
  have h1 : ¬ L = [] := by simpa using h1
  rw [if_neg h1]
  conv => whnf
  refine LoopA_i (T := tys) tysOk (by exact drawsB_spec mixed tysOk (by decide +kernel)) L (fun i (q : Int × Int) => ⟨[(2, .ptr 2 0), (3, .ptr 3 0), (4, .ptr 4 0), (10, .d (truthsD (L.map (·.1)))), (11, .d (litsD (L.map (·.2)))), (12, .d (i64 q.1)), (13, .d (i64 q.2)), (14, .d (i64 i))], [(2, .box (.dd c.cells)), (3, .box (.dd l.cells)), (4, .box (.dd [i64 0, .nils]))], st⟩)
    (fun i r q => keptJ l.phases L c.lamp.night i q.1 q.2) (-1, c.lamp.night) (Wk.sub ⟨(by first | rfl | (simp only [List.length_map]; rfl) | simp [PX.get]), (by first | rfl | (simp only [List.length_map]; rfl) | simp [PX.get]), (by first | rfl | (simp only [List.length_map]; rfl) | simp [PX.get]), (by first | rfl | (simp only [List.length_map]; rfl) | simp [PX.get]), (by first | rfl | (simp only [List.length_map]; rfl) | simp [PX.get]), (by first | rfl | (simp only [List.length_map]; rfl) | simp [PX.get]), (by first | rfl | (simp only [List.length_map]; rfl) | simp [PX.get]), (by first | rfl | (simp only [List.length_map]; rfl) | simp [PX.get]), trivial⟩ ⟨(by first | rfl | (simp only [List.length_map]; rfl) | simp [PX.get]), (by first | rfl | (simp only [List.length_map]; rfl) | simp [PX.get]), (by first | rfl | (simp only [List.length_map]; rfl) | simp [PX.get]), trivial⟩) (.inl ⟨rfl, rfl, rfl⟩) ?_ ?_
  · rintro i p r ⟨w, v⟩ hx hi hr hj
    simp only at hj
    have hp := hlit p (List.mem_of_getElem? hx)
    have hne : p.2 ≠ [] := by intro h; rw [h] at hp; simp at hp; omega
    have hlt := failsL_lt (l := l.phases) hne
    have hj2 := kept_step hx (by omega) hj
    have hx2 : (L.map (·.2))[i]? = some p.2 := by rw [List.getElem?_map, hx]; rfl
    conv => whnf
    refine brk_i (fun _ => ?_) (fun h => absurd hi (by simpa using h))
    conv => whnf
    refine elemK_nat hx2 ?_
    conv => whnf
    refine DrawCall_v (la54 p.2 l.phases hne (by omega) hl.ph) rfl rfl ?_
    conv => whnf
    generalize failsL p.2 l.phases = f at hj2 hlt
    by_cases h2 : 0 ≤ f
    · rw [show decide (0 ≤ f) = true from decide_eq_true h2]
      conv => whnf
      refine brk_i (fun h3 => ?_) (fun h3 => ?_)
      · have h3 : f < v := by simpa using h3
        rw [if_pos ⟨h2, h3⟩, if_pos ⟨h2, h3⟩] at hj2
        conv => whnf
        refine arith_in (wrap_i64 (by (try dsimp only); omega)) ?_
        conv => whnf
        exact ⟨((i : Int), f), hj2, (Wk.sub ⟨(by first | rfl | (simp only [List.length_map]; rfl) | simp [PX.get]), (by first | rfl | (simp only [List.length_map]; rfl) | simp [PX.get]), (by first | rfl | (simp only [List.length_map]; rfl) | simp [PX.get]), (by first | rfl | (simp only [List.length_map]; rfl) | simp [PX.get]), (by first | rfl | (simp only [List.length_map]; rfl) | simp [PX.get]), (by first | rfl | (simp only [List.length_map]; rfl) | simp [PX.get]), (by first | rfl | (simp only [List.length_map]; rfl) | simp [PX.get]), (by first | rfl | (simp only [List.length_map]; rfl) | simp [PX.get]), trivial⟩ ⟨(by first | rfl | (simp only [List.length_map]; rfl) | simp [PX.get]), (by first | rfl | (simp only [List.length_map]; rfl) | simp [PX.get]), (by first | rfl | (simp only [List.length_map]; rfl) | simp [PX.get]), trivial⟩)⟩
      · have h3 : ¬ f < v := by simpa using h3
        rw [if_neg (fun h => h3 h.2), if_neg (fun h => h3 h.2)] at hj2
        conv => whnf
        refine arith_in (wrap_i64 (by (try dsimp only); omega)) ?_
        conv => whnf
        exact ⟨(w, v), hj2, (Wk.sub ⟨(by first | rfl | (simp only [List.length_map]; rfl) | simp [PX.get]), (by first | rfl | (simp only [List.length_map]; rfl) | simp [PX.get]), (by first | rfl | (simp only [List.length_map]; rfl) | simp [PX.get]), (by first | rfl | (simp only [List.length_map]; rfl) | simp [PX.get]), (by first | rfl | (simp only [List.length_map]; rfl) | simp [PX.get]), (by first | rfl | (simp only [List.length_map]; rfl) | simp [PX.get]), (by first | rfl | (simp only [List.length_map]; rfl) | simp [PX.get]), (by first | rfl | (simp only [List.length_map]; rfl) | simp [PX.get]), trivial⟩ ⟨(by first | rfl | (simp only [List.length_map]; rfl) | simp [PX.get]), (by first | rfl | (simp only [List.length_map]; rfl) | simp [PX.get]), (by first | rfl | (simp only [List.length_map]; rfl) | simp [PX.get]), trivial⟩)⟩
    · rw [show decide (0 ≤ f) = false from decide_eq_false h2]
      rw [if_neg (fun h => h2 h.1), if_neg (fun h => h2 h.1)] at hj2
      conv => whnf
      refine arith_in (wrap_i64 (by (try dsimp only); omega)) ?_
      conv => whnf
      exact ⟨(w, v), hj2, (Wk.sub ⟨(by first | rfl | (simp only [List.length_map]; rfl) | simp [PX.get]), (by first | rfl | (simp only [List.length_map]; rfl) | simp [PX.get]), (by first | rfl | (simp only [List.length_map]; rfl) | simp [PX.get]), (by first | rfl | (simp only [List.length_map]; rfl) | simp [PX.get]), (by first | rfl | (simp only [List.length_map]; rfl) | simp [PX.get]), (by first | rfl | (simp only [List.length_map]; rfl) | simp [PX.get]), (by first | rfl | (simp only [List.length_map]; rfl) | simp [PX.get]), (by first | rfl | (simp only [List.length_map]; rfl) | simp [PX.get]), trivial⟩ ⟨(by first | rfl | (simp only [List.length_map]; rfl) | simp [PX.get]), (by first | rfl | (simp only [List.length_map]; rfl) | simp [PX.get]), (by first | rfl | (simp only [List.length_map]; rfl) | simp [PX.get]), trivial⟩)⟩
  · rintro ⟨w, v⟩ hj
    simp only at hj
    unfold keptJ at hj
    rw [List.take_length] at hj
    conv => whnf
    refine brk_i (fun h => absurd h (by simp)) (fun _ => ?_)
    conv => whnf
    rcases hj with ⟨h2, h3, h4⟩ | ⟨j, p, h2, h3, h4, h5, h6, h7, h8⟩
    · subst h2
      rw [h4]
      conv => whnf
      exact RetA_viewR 0 rfl rfl ⟨⟨rfl, rfl⟩, rfl⟩
    · subst h2
      rw [h5]
      have hx1 : (L.map (·.1))[j]? = some p.1 := by rw [List.getElem?_map, h4]; rfl
      rw [show decide (((j : Nat) : Int) < 0) = false from decide_eq_false (by omega)]
      conv => whnf
      refine elemK_nat hx1 ?_
      conv => whnf
      exact RetA_view 0 rfl ⟨⟨rfl, rfl⟩, rfl⟩
end Go.PX

namespace Go.PX
open Go.Proofs

/- Lamp: the reference: Run, Longest, Wind. -/

theorem FnV.arg {P : Program} {f : FuncId} {ds ds' : List D} {res : D} (h : FnV P f ds res) (hr : ∀ (F : Nat → Nat) (w : World) (l : List Value), RepDL F w ds' l → RepDL F w ds l) : FnV P f ds' res :=
  fun {_} Y s => ⟨(h Y s).enter, fun cx hY L F vals w hh hv => (h Y s).run cx hY L F vals w hh (RepVL.inj.2 (hr _ _ _ (RepVL.inj.1 hv)))⟩

theorem la50n (x : LLamp) (t : LTruth) (hr : CrsR x [] t) : FnV Try.prog 50 [x.d, .nils, t.d] (boolsD (courseL x [] t)) :=
  FnV.arg (fun {_} => la50 x [] t hr) (fun F w l h => by
    obtain ⟨a, l1, rfl, ha, b, l2, rfl, hb, h2⟩ := h
    exact ⟨a, _, rfl, ha, b, _, rfl, RepD.relax .nils b hb, h2⟩)

def runV (x : LLamp) (ps : List LPhase) (a v : Int) : Int := if failsL (courseL x [] ⟨a, [v]⟩) ps < 0 then x.night else failsL (courseL x [] ⟨a, [v]⟩) ps

theorem CrsR.one {x : LLamp} (h : LampR x) {a v : Int} (ha : 0 ≤ a ∧ a < x.drum) (hv : 1 ≤ v ∧ v ≤ 40) : CrsR x [] ⟨a, [v]⟩ := ⟨h, by simp, ha, rfl, fun s hs => by rw [List.mem_singleton.1 hs]; exact hv⟩

set_option maxHeartbeats 1000000 in
theorem la57 (x : LLamp) (l : LLight) (a v : Int) (h : LampR x) (hl : LightR l) (ha : 0 ≤ a ∧ a < x.drum) (hv : 1 ≤ v ∧ v ≤ 40) : FnV Try.prog 57 [x.d, l.d, i64 a, i64 v] (i64 (runV x l.phases a v)) := by
  refine fnV_of mixed tysOk Try.func57 rfl (ft := ft57) 4 (by decide +kernel) (by rfl) fun {σ} Y st => ?_
  conv => whnf
  refine DrawCall_fz (la50n x ⟨a, [v]⟩ (CrsR.one h ha hv)) 1 rfl rfl ?_
  conv => whnf
  obtain ⟨k1, k2, k3⟩ := courseL_len (w := []) (t := ⟨a, [v]⟩) h
  refine DrawCall_v (la54 (courseL x [] ⟨a, [v]⟩) l.phases k1 k2 hl.ph) rfl rfl ?_
  conv => whnf
  unfold runV
  refine brk_i (fun h1 => ?_) (fun h1 => ?_)
  · have h1 : failsL (courseL x [] ⟨a, [v]⟩) l.phases < 0 := by simpa using h1
    rw [if_pos h1]
    conv => whnf
    exact RetA_view 0 rfl ⟨⟨rfl, rfl⟩, rfl⟩
  · have h1 : ¬ failsL (courseL x [] ⟨a, [v]⟩) l.phases < 0 := by simpa using h1
    rw [if_neg h1]
    conv => whnf
    exact RetA_view 0 rfl ⟨⟨rfl, rfl⟩, rfl⟩

theorem courseF_any {x : LLamp} {w sp : List Int} : ∀ {k : Nat} {s a b : Int} {n : Nat}, courseF (anyStart x) w sp k s a b n = courseF x w sp k s a b n
  | 0, _, _, _, _ => rfl
  | k + 1, s, a, b, n => by
    rw [courseF, courseF, courseF_any, courseF_any]; rfl

theorem check_alone (x : LLamp) : (checkL (aloneC x)).2.2 = (wheelF x).2.2 := by
  unfold checkL aloneC
  by_cases h : (wheelF x).2.2 = 0
  · simp [h, windF, sightF]
  · simp [h]

def runsP (x : LLamp) : List (Int × Int) := (upto x.drum.toNat 0).flatMap fun a => (spanL x.speed).map fun v => (a, v)
def longR (x : LLamp) (ps : List LPhase) : Int := (runsP x).foldl (fun n p => min n (runV x ps p.1 p.2)) x.night

theorem anyC_eq {x : LLamp} (h : LampR x) : anyC x = (runsP x).map fun p => (⟨p.1, [p.2]⟩, courseL x [] ⟨p.1, [p.2]⟩) := by
  unfold anyC
  rw [truL_all (upF_nil h.any)]
  have h1 : (allT (anyStart x) []).filter (fun t => okW trueF 0 (courseL (anyStart x) [] t)) = allT (anyStart x) [] := by
    rw [List.filter_eq_self]
    exact fun t _ => okW_true _ _
  rw [h1]
  have h2 : allT (anyStart x) [] = (runsP x).map fun p => (⟨p.1, [p.2]⟩ : LTruth) := by
    unfold allT runsP
    have e1 : spanL (anyStart x).start = upto x.drum.toNat 0 := by
      show upto (x.drum - 1 + 1 - 0).toNat 0 = _
      congr 1
      have := h.drum
      omega
    have e2 : speedsL (anyStart x).speed (([] : List Int).length + 1) = (spanL x.speed).map fun v => [v] := by
      show (spanL x.speed).flatMap (fun v => [[]].map (v :: ·)) = _
      generalize spanL x.speed = q
      induction q with
      | nil => rfl
      | cons v r ih => rw [List.flatMap_cons, ih]; rfl
    rw [e1, e2, List.map_flatMap]
    congr 1
    funext a
    rw [List.map_map, List.map_map]
    rfl
  rw [h2, List.map_map]
  refine List.map_congr_left fun p _ => ?_
  show (_, courseF (anyStart x) _ _ _ _ _ _ _) = (_, courseF x _ _ _ _ _ _ _)
  rw [courseF_any]
  rfl

theorem longF_ref {x : LLamp} (h : LampR x) (ps : List LPhase) : longF x ps = longR x ps := by
  unfold longF longR
  rw [anyC_eq h, List.foldl_map]
  have key : ∀ (q : List (Int × Int)) (n : Int), n ≤ x.night → q.foldl (fun n p => longStep ps n (⟨p.1, [p.2]⟩, courseL x [] ⟨p.1, [p.2]⟩)) n = q.foldl (fun n p => min n (runV x ps p.1 p.2)) n := by
    intro q
    induction q with
    | nil => exact fun _ _ => rfl
    | cons p r ih =>
      intro n hn
      rw [List.foldl_cons, List.foldl_cons]
      have : longStep ps n (⟨p.1, [p.2]⟩, courseL x [] ⟨p.1, [p.2]⟩) = min n (runV x ps p.1 p.2) := by
        unfold longStep runV
        simp only
        by_cases h1 : failsL (courseL x [] ⟨p.1, [p.2]⟩) ps < 0
        · rw [if_neg (by omega), if_pos h1]; omega
        · rw [if_pos (by omega), if_neg h1]
      rw [this]
      exact ih _ (by omega)
  exact key _ _ (Int.le_refl _)

set_option maxHeartbeats 1000000 in
theorem la38 (x : LLamp) (l : LLight) : FnV Try.prog 38 [x.d, l.d] (.tup [i64 (longV x l), i64 (longE x l)]) := by
  refine fnV_of mixed tysOk Try.func38 rfl (ft := ft38) 2 (by decide +kernel) (by rfl) fun {σ} Y st => ?_
  conv => whnf
  refine CallA_v (la62 x) rfl rfl ?_
  conv => whnf
  refine CallA_v (la91 l (wheelF x).2.2) rfl rfl ?_
  conv => whnf
  have he : (if (wheelF x).2.2 = 0 then (lightsF [l]).2 else (wheelF x).2.2) = longE x l := by
    unfold longE entrE
    rw [check_alone]
  rw [he]
  by_cases h0 : longE x l = 0
  case neg =>
    have hv : longV x l = 0 := by unfold longV; rw [if_neg h0]
    rw [hv]
    refine brk_i (fun _ => ?_) (fun h1 => absurd h1 (by simp [h0]))
    conv => whnf
    exact RetA_view 0 rfl ⟨⟨rfl, rfl⟩, rfl⟩
  obtain ⟨hR, hl⟩ := long_ok h0
  have hv : longV x l = longR x l.phases := by unfold longV; rw [if_pos h0, longF_ref hR]
  rw [hv]
  unfold longR runsP
  have hd := hR.drum
  have hs := hR.speed
  refine brk_i (fun h1 => absurd h1 (by simp [h0])) (fun _ => ?_)
  conv => whnf
  refine LoopA_p (T := tys) tysOk (by exact drawsB_spec mixed tysOk (by decide +kernel)) (α := Nat × Int)
    (fun p => ⟨[(2, .ptr 2 0), (3, .ptr 3 0), (9, .d (i64 p.2)), (10, .d (i64 p.1))], [(2, .box (.dd x.cells)), (3, .box (.dd l.cells))], st⟩)
    (fun p => p.1 ≤ x.drum.toNat ∧ ((upto x.drum.toNat 0).flatMap fun a => (spanL x.speed).map fun v => (a, v)).foldl (fun n p => min n (runV x l.phases p.1 p.2)) x.night = ((upto (x.drum.toNat - p.1) p.1).flatMap fun a => (spanL x.speed).map fun v => (a, v)).foldl (fun n p => min n (runV x l.phases p.1 p.2)) p.2)
    (fun p => x.drum.toNat - p.1) (0, x.night) (Wk.sub ⟨(by first | rfl | (simp only [List.length_map]; rfl) | simp [PX.get]), (by first | rfl | (simp only [List.length_map]; rfl) | simp [PX.get]), (by first | rfl | (simp only [List.length_map]; rfl) | simp [PX.get]), (by first | rfl | (simp only [List.length_map]; rfl) | simp [PX.get]), trivial⟩ ⟨(by first | rfl | (simp only [List.length_map]; rfl) | simp [PX.get]), (by first | rfl | (simp only [List.length_map]; rfl) | simp [PX.get]), trivial⟩) ⟨Nat.zero_le _, rfl⟩ ?_
  rintro ⟨j, n0⟩ ⟨hj, hb⟩
  simp only at hj hb
  conv => whnf
  refine brk_i (fun h4 => ?_) (fun h4 => ?_)
  case refine_2 =>
    have h4 : ¬ (j : Int) < x.drum := by simpa using h4
    rw [show x.drum.toNat - j = 0 by omega, upto, List.flatMap_nil, List.foldl_nil] at hb
    rw [hb]
    conv => whnf
    rw [h0]
    exact RetA_view 0 rfl ⟨⟨rfl, rfl⟩, rfl⟩
  have h4 : (j : Int) < x.drum := by simpa using h4
  obtain ⟨m, hm⟩ : ∃ m, x.drum.toNat - j = m + 1 := ⟨x.drum.toNat - j - 1, by omega⟩
  rw [hm, upto, List.flatMap_cons, List.foldl_append, List.foldl_map] at hb
  conv => whnf
  refine LoopA_p (T := tys) tysOk (by exact drawsB_spec mixed tysOk (by decide +kernel)) (α := Nat × Int)
    (fun p => ⟨[(2, .ptr 2 0), (3, .ptr 3 0), (9, .d (i64 p.2)), (10, .d (i64 j)), (11, .d (i64 (x.speed.lo + p.1)))], [(2, .box (.dd x.cells)), (3, .box (.dd l.cells))], st⟩)
    (fun p => p.1 ≤ (x.speed.hi + 1 - x.speed.lo).toNat ∧ (spanL x.speed).foldl (fun n v => min n (runV x l.phases j v)) n0 = (upto ((x.speed.hi + 1 - x.speed.lo).toNat - p.1) (x.speed.lo + p.1)).foldl (fun n v => min n (runV x l.phases j v)) p.2)
    (fun p => (x.speed.hi + 1 - x.speed.lo).toNat - p.1) (0, n0) ?wk ?pr ?_
  case wk => exact Wk.sub ⟨rfl, rfl, rfl, rfl, by show some (V.d (i64 x.speed.lo)) = some (V.d (i64 (x.speed.lo + ((0 : Nat) : Int)))); simp, trivial⟩ ⟨rfl, rfl, trivial⟩
  case pr => exact ⟨Nat.zero_le _, by simp [spanL]⟩
  rintro ⟨i, n1⟩ ⟨hi, hc⟩
  simp only at hi hc
  conv => whnf
  refine brk_i (fun h5 => ?_) (fun h5 => ?_)
  case refine_2 =>
    have h5 : ¬ x.speed.lo + i ≤ x.speed.hi := by simpa using h5
    rw [show (x.speed.hi + 1 - x.speed.lo).toNat - i = 0 by omega, upto, List.foldl_nil] at hc
    rw [hc] at hb
    conv => whnf
    refine arith_to (((j + 1 : Nat) : Int)) (by (try dsimp only); omega) (wrap_i64 (by (try dsimp only); omega)) ?_
    conv => whnf
    refine ⟨(j + 1, n1), by simp only; omega, ⟨by simp only; omega, ?_⟩, (Wk.sub ⟨(by first | rfl | (simp only [List.length_map]; rfl) | simp [PX.get]), (by first | rfl | (simp only [List.length_map]; rfl) | simp [PX.get]), (by first | rfl | (simp only [List.length_map]; rfl) | simp [PX.get]), (by first | rfl | (simp only [List.length_map]; rfl) | simp [PX.get]), trivial⟩ ⟨(by first | rfl | (simp only [List.length_map]; rfl) | simp [PX.get]), (by first | rfl | (simp only [List.length_map]; rfl) | simp [PX.get]), trivial⟩)⟩
    simp only
    rw [hb, show x.drum.toNat - (j + 1) = m by omega]
    rfl
  have h5 : x.speed.lo + i ≤ x.speed.hi := by simpa using h5
  obtain ⟨m2, hm2⟩ : ∃ m2, (x.speed.hi + 1 - x.speed.lo).toNat - i = m2 + 1 := ⟨(x.speed.hi + 1 - x.speed.lo).toNat - i - 1, by omega⟩
  rw [hm2, upto, List.foldl_cons] at hc
  conv => whnf
  refine CallA_v (la57 x l j (x.speed.lo + i) hR hl (by omega) (by omega)) rfl rfl ?_
  conv => whnf
  refine arith_to (x.speed.lo + ((i + 1 : Nat) : Int)) (by (try dsimp only); omega) (wrap_i64 (by (try dsimp only); omega)) ?_
  conv => whnf
  refine ⟨(i + 1, min n1 (runV x l.phases j (x.speed.lo + i))), by simp only; omega, ⟨by simp only; omega, ?_⟩, Wk.sub ⟨rfl, rfl, rfl, rfl, rfl, trivial⟩ ⟨rfl, rfl, trivial⟩⟩
  simp only
  rw [hc, show (x.speed.hi + 1 - x.speed.lo).toNat - (i + 1) = m2 by omega, show x.speed.lo + ((i + 1 : Nat) : Int) = x.speed.lo + (i : Int) + 1 by omega]

set_option maxHeartbeats 1000000 in
theorem la40 (x : LLamp) (l : LLight) : FnV Try.prog 40 [x.d, l.d] (.tup [intsD (windV x l), i64 (longE x l)]) := by
  refine fnV_of mixed tysOk Try.func40 rfl (ft := ft40) 2 (by decide +kernel) (by rfl) fun {σ} Y st => ?_
  conv => whnf
  refine CallA_v (la38 x l) rfl rfl ?_
  conv => whnf
  by_cases h0 : longE x l = 0
  case neg =>
    have hv : windV x l = [] := by unfold windV; rw [if_neg h0]
    rw [hv]
    refine brk_i (fun _ => ?_) (fun h1 => absurd h1 (by simp [h0]))
    conv => whnf
    exact RetA_viewR 0 rfl rfl ⟨⟨rfl, rfl⟩, rfl⟩
  have hv : windV x l = windL ((x.night - 1).tdiv (longV x l)).toNat (longV x l) := by unfold windV; rw [if_pos h0]
  have hR := (long_ok h0).1
  have hl := longF_rng (ps := l.phases) hR
  have hlv : longV x l = longF x l.phases := by unfold longV; rw [if_pos h0]
  rw [← hlv] at hl
  rw [hv]
  have hn := hR.night
  refine brk_i (fun h1 => absurd h1 (by simp [h0])) (fun _ => ?_)
  conv => whnf
  rw [Int.tdiv_eq_ediv_of_nonneg (by omega)]
  have hiff : ∀ i : Nat, ((i : Int) + 1) * longV x l < x.night ↔ i < ((x.night - 1) / longV x l).toNat := fun i => by
    have h1 := Int.le_ediv_iff_mul_le (a := (i : Int) + 1) (b := x.night - 1) (c := longV x l) (by omega)
    have h2 : 0 ≤ (x.night - 1) / longV x l := Int.ediv_nonneg (by omega) (by omega)
    omega
  have hq2 : ((x.night - 1) / longV x l).toNat ≤ 200 := by
    have := Int.ediv_le_self (a := x.night - 1) (longV x l) (by omega)
    omega
  generalize ((x.night - 1) / longV x l).toNat = K at hiff hq2
  generalize longV x l = n at hl hiff
  refine LoopA_p (T := tys) tysOk (by exact drawsB_spec mixed tysOk (by decide +kernel)) (α := Nat)
    (fun i => ⟨[(2, .ptr 2 0), (6, .d (i64 n)), (7, .d (i64 (longE x l))), (8, .sl 30 1 0 i), (9, .d (i64 (((i : Int) + 1) * n)))], [(2, .box (.dd x.cells)), (30, .arr 1 (.dd ((windL i n).map fun n => [i64 n])))], st⟩) (fun i => i ≤ K) (fun i => K - i) 0 ((Wk.born 8 30 1 rfl rfl rfl).trans (Wk.sub ⟨rfl, rfl, rfl, rfl, by show some (V.d (i64 n)) = some (V.d (i64 ((((0 : Nat) : Int) + 1) * n))); simp, trivial⟩ ⟨rfl, rfl, trivial⟩)) (Nat.zero_le _) ?_
  intro i hi
  have hil : (windL i n).length = i := windL_len i n
  have hii := hiff i
  conv => whnf
  refine brk_i (fun h1 => ?_) (fun h1 => ?_)
  · have h1 : ((i : Int) + 1) * n < x.night := by simpa using h1
    have h2 := hii.1 h1
    have hm0 : 0 ≤ ((i : Int) + 1) * n := Int.mul_nonneg (by omega) (by omega)
    have hm1 : (((i + 1 : Nat) : Int) + 1) * n = ((i : Int) + 1) * n + n := by
      rw [show (((i + 1 : Nat) : Int) + 1) = ((i : Int) + 1) + 1 by omega, Int.add_mul, Int.one_mul]
    conv => whnf
    refine ownK_whole rfl ?_
    conv => whnf
    refine ownK_whole (by simp [Els.len, hil]) ?_
    conv => whnf
    refine chk_i (decide_eq_true (by
      show (((windL i n).map fun n => [i64 n]).length + 1) * 8 ≤ 140737488355328
      rw [List.length_map]; omega)) ?_
    conv => whnf
    refine arith_to ((((i + 1 : Nat) : Int) + 1) * n) hm1.symm (wrap_i64 (by omega)) ?_
    conv => whnf
    refine ⟨i + 1, (by show K - (i + 1) < K - i; omega), (by show i + 1 ≤ K; omega), Wk.sub ⟨rfl, rfl, rfl, ?_, rfl, trivial⟩ ⟨rfl, ?_, trivial⟩⟩
    · simp [PX.get, Els.len, hil]
    · rw [windL_succ]; simp [PX.get]
  · have h1 : ¬ ((i : Int) + 1) * n < x.night := by simpa using h1
    have h2 : i = K := by
      have : ¬ i < K := fun h => h1 (hii.2 h)
      omega
    subst h2
    conv => whnf
    rw [h0]
    exact RetA_view 1 (ds := [intsD (windL i n), i64 0]) (viewL_cons (viewV_sl rfl (by simp [hil])) rfl) ⟨⟨rfl, rfl⟩, rfl⟩
end Go.PX

namespace Go.PX
open Go.Proofs

/- Lamp: LampWound. -/

theorem mem_runs {x : LLamp} {a v : Int} : (a, v) ∈ runsP x ↔ (0 ≤ a ∧ a < x.drum) ∧ x.speed.lo ≤ v ∧ v ≤ x.speed.hi := by
  unfold runsP
  rw [List.mem_flatMap]
  constructor
  · rintro ⟨b, hb, h⟩
    obtain ⟨u, hu, he⟩ := List.mem_map.1 h
    cases he
    rw [mem_upto] at hb
    rw [mem_spanL] at hu
    omega
  · rintro ⟨h1, h2⟩
    exact ⟨a, mem_upto.2 (by omega), List.mem_map.2 ⟨v, mem_spanL.2 h2, rfl⟩⟩

theorem fold_min {f : Int × Int → Int} : ∀ {l : List (Int × Int)} {m : Int}, l.foldl (fun n p => min n (f p)) m ≤ m ∧ (∀ p ∈ l, l.foldl (fun n p => min n (f p)) m ≤ f p) ∧ (l.foldl (fun n p => min n (f p)) m = m ∨ ∃ p ∈ l, f p = l.foldl (fun n p => min n (f p)) m)
  | [], m => ⟨Int.le_refl _, fun p h => (by cases h), .inl rfl⟩
  | q :: r, m => by
    obtain ⟨h1, h2, h3⟩ := fold_min (f := f) (l := r) (m := min m (f q))
    rw [List.foldl_cons]
    refine ⟨by omega, fun p hp => ?_, ?_⟩
    · rcases List.mem_cons.1 hp with rfl | hp
      · omega
      · exact h2 p hp
    · rcases h3 with h3 | ⟨p, hp, h3⟩
      · rcases Int.le_total m (f q) with h | h
        · left; omega
        · right; exact ⟨q, by simp, by omega⟩
      · exact .inr ⟨p, by simp [hp], h3⟩

/-- What Longest says: each run keeps as long; one no longer. -/
theorem long_law {x : LLamp} (h : LampR x) (ps : List LPhase) : (∀ a v, (0 ≤ a ∧ a < x.drum) ∧ x.speed.lo ≤ v ∧ v ≤ x.speed.hi → longF x ps ≤ runV x ps a v) ∧
    (longF x ps = x.night ∨ ∃ a v, ((0 ≤ a ∧ a < x.drum) ∧ x.speed.lo ≤ v ∧ v ≤ x.speed.hi) ∧ runV x ps a v = longF x ps) := by
  rw [longF_ref h]
  obtain ⟨_, h2, h3⟩ := fold_min (f := fun p => runV x ps p.1 p.2) (l := runsP x) (m := x.night)
  refine ⟨fun a v hav => h2 (a, v) (mem_runs.2 hav), ?_⟩
  rcases h3 with h3 | ⟨⟨a, v⟩, hp, h3⟩
  · exact .inl h3
  · exact .inr ⟨a, v, mem_runs.1 hp, h3⟩

theorem la47n (x : LLamp) : FnV Try.prog 47 [.agg (x.cells ++ [.nils, .nils])] (.bool (valL (aloneC x))) :=
  FnV.arg (fun {_} => la47 (aloneC x)) (fun F w vs h => by
    obtain ⟨a, r, rfl, ha, hr⟩ := h
    refine ⟨a, r, rfl, ?_, hr⟩
    have e : relax (.agg (x.cells ++ [.nils, .nils])) = (aloneC x).d := by
      show D.agg (relaxL (x.cells ++ [.nils, .nils])) = _
      simp only [LLamp.cells, List.cons_append, List.nil_append, relaxL, relax, spansD, relaxE_spans]
      rfl
    exact e ▸ RepD.relax _ _ (show RepD F w (.agg (x.cells ++ [.nils, .nils])) a from ha))

theorem wind_mem {k : Nat} {n : Int} {i : Nat} (h : i < k) : (windL k n)[i]? = some (((i : Int) + 1) * n) := by
  unfold windL
  simp [h]

set_option maxHeartbeats 2000000 in
theorem la11 (x : LLamp) (l : LLight) (y : List Int) (hy : ∀ b ∈ y, 0 ≤ b ∧ b ≤ 255) : FnV Try.prog 11 [x.d, l.d, bytesD y] (.bool true) := by
  refine fnV_of mixed tysOk Try.func11 rfl (ft := ft11) 3 (by decide +kernel) (by rfl) fun {σ} Y st => ?_
  conv => whnf
  refine CallA_v (la37 x l) rfl rfl ?_
  conv => whnf
  refine CallA_v (la39 x l) rfl rfl ?_
  conv => whnf
  refine CallA_v (la47n x) rfl rfl ?_
  by_cases h0 : longE x l = 0
  case neg =>
    have hv : longV x l = 0 := by unfold longV; rw [if_neg h0]
    have hw : windV x l = [] := by unfold windV; rw [if_neg h0]
    rw [hv, hw]
    have fin : ∀ b, valL (aloneC x) = true → b = lightsB [l] → b = false := by
      rintro b h1 rfl
      have hc : (checkL (aloneC x)).2.2 = 0 := of_decide_eq_true h1
      exact decide_eq_false (by unfold longE entrE at h0; rwa [if_pos hc] at h0)
    cases hv : valL (aloneC x) with
    | false =>
      conv => whnf
      refine brk_i (fun _ => ?_) (fun h => absurd h (by simp [h0]))
      conv => whnf
      refine brk_i (fun _ => ?_) (fun h => absurd h (by simp))
      conv => whnf
      refine CallA_v (la22) rfl rfl ?_
      conv => whnf
      exact RetA_view 0 rfl ⟨⟨rfl, rfl⟩, rfl⟩
    | true =>
      conv => whnf
      refine CallA_view (ds := [lightsD [l]]) (la52 [l]) rfl 1 rfl ?_
      rw [fin _ hv rfl]
      conv => whnf
      refine brk_i (fun _ => ?_) (fun h => absurd h (by simp [h0]))
      conv => whnf
      refine brk_i (fun _ => ?_) (fun h => absurd h (by simp))
      conv => whnf
      refine CallA_v (la22) rfl rfl ?_
      conv => whnf
      exact RetA_view 0 rfl ⟨⟨rfl, rfl⟩, rfl⟩
  obtain ⟨hR, hl⟩ := long_ok h0
  have hn := hR.night
  have hd := hR.drum
  have hsp := hR.speed
  have hvL : valL (aloneC x) = true := decide_eq_true (entr_ok h0).1
  have hlB : lightsB [l] = true := decide_eq_true (by
    have hc := (entr_ok h0).1
    unfold longE entrE at h0; rwa [if_pos hc] at h0)
  have hV : longV x l = longF x l.phases := by unfold longV; rw [if_pos h0]
  have hW : windV x l = windL ((x.night - 1).tdiv (longV x l)).toNat (longV x l) := by unfold windV; rw [if_pos h0]
  obtain ⟨hw1, hw2⟩ := long_law hR l.phases
  have hr := longF_rng (ps := l.phases) hR
  rw [← hV] at hw1 hw2 hr
  rw [hvL, h0]
  generalize longV x l = n at hw1 hw2 hr hW ⊢
  have hq : (x.night - 1).tdiv n = (x.night - 1) / n := Int.tdiv_eq_ediv_of_nonneg (by omega)
  obtain ⟨k, hk⟩ : ∃ k : Nat, (x.night - 1) / n = k := ⟨((x.night - 1) / n).toNat, by have := Int.ediv_nonneg (a := x.night - 1) (b := n) (by omega) (by omega); omega⟩
  have hdm := Int.mul_ediv_add_emod (x.night - 1) n
  have hm1 := Int.emod_nonneg (x.night - 1) (b := n) (by omega)
  have hm2 := Int.emod_lt_of_pos (x.night - 1) (b := n) (by omega)
  rw [hk] at hdm
  have hkn : (k : Int) * n ≤ x.night - 1 ∧ x.night - 1 < (k : Int) * n + n := by rw [Int.mul_comm]; omega
  have hk200 : k ≤ 200 := by
    have h1 : (k : Int) * 1 ≤ (k : Int) * n := Int.mul_le_mul_of_nonneg_left (by omega) (by omega)
    omega
  rw [hq, hk, Int.toNat_natCast] at hW
  have hlen : (windV x l).length = k := by rw [hW, windL_len]
  generalize windV x l = w at hW hlen ⊢
  conv => whnf
  refine CallA_view (ds := [lightsD [l]]) (la52 [l]) rfl 1 rfl ?_
  rw [hlB]
  conv => whnf
  refine brk_i (fun h => absurd h (by simp; omega)) (fun _ => ?_)
  conv => whnf
  refine brk_i (fun h => absurd h (by simp; omega)) (fun _ => ?_)
  conv => whnf
  refine arith_in (wrap_i64 (by (try dsimp only); omega)) ?_
  conv => whnf
  refine chk_i (decide_eq_true (by omega)) ?_
  conv => whnf
  refine arith_to (k : Int) (by rw [← hk, ← hq]) (wrap_i64 (by omega)) ?_
  conv => whnf
  refine brk_i (fun h => absurd h (by simp [hlen])) (fun _ => ?_)
  conv => whnf
  refine LoopA_p (T := tys) tysOk (by exact drawsB_spec mixed tysOk (by decide +kernel)) (α := Nat) (fun i => ⟨[(2, .d (bytesD y)), (3, .ptr 3 0), (4, .ptr 4 0), (6, .d (.bool false)), (7, .d (i64 n)), (9, .d (intsD w)), (11, .d (i64 (if i = k + 1 then x.night else (i : Int) * n))), (12, .d (i64 i))], [(3, .box (.dd x.cells)), (4, .box (.dd l.cells))], st⟩)
    (fun i => i ≤ k + 1) (fun i => k + 1 - i) 0 (by
      rw [if_neg (by omega)]
      exact Wk.sub ⟨rfl, rfl, rfl, rfl, rfl, rfl, by simp [PX.get], rfl, trivial⟩ ⟨rfl, rfl, trivial⟩) (Nat.zero_le _) ?_
  intro i hi
  conv => whnf
  refine brk_i (fun h1 => ?_) (fun h1 => ?_)
  · have h1 : i ≤ k := by have := of_decide_eq_true h1; simp [hlen] at this; omega
    rw [if_neg (show ¬ i = k + 1 by omega)]
    have him : (i : Int) * n ≤ (k : Int) * n := Int.mul_le_mul_of_nonneg_right (by omega) (by omega)
    have hi0 : 0 ≤ (i : Int) * n := Int.mul_nonneg (by omega) (by omega)
    have hsucc : ((i : Int) + 1) * n = (i : Int) * n + n := by rw [Int.add_mul, Int.one_mul]
    conv => whnf
    refine brk_i (fun h2 => ?_) (fun h2 => ?_)
    · have h2 : i < k := by have := of_decide_eq_true h2; simpa [hlen] using this
      have hwi : w[i]? = some (((i : Int) + 1) * n) := by rw [hW]; exact wind_mem h2
      have him2 : ((i : Int) + 1) * n ≤ (k : Int) * n := Int.mul_le_mul_of_nonneg_right (by omega) (by omega)
      conv => whnf
      refine elemK_nat hwi ?_
      conv => whnf
      have t1 := turn_bd hy (2 * i)
      have t2 := turn_bd hy (2 * i + 1)
      refine brk_i (fun h => absurd (of_decide_eq_true h) (by omega)) (fun _ => ?_)
      conv => whnf
      refine arith_in (wrap_i64 (by (try dsimp only); omega)) ?_
      conv => whnf
      refine brk_i (fun h => absurd (of_decide_eq_true h) (by omega)) (fun _ => ?_)
      conv => whnf
      refine brk_i (fun h => absurd (of_decide_eq_true h) (by omega)) (fun _ => ?_)
      conv => whnf
      refine arith_to (((2 * i : Nat) : Int)) (by (try dsimp only); omega) (wrap_i64 (by (try dsimp only); omega)) ?_
      conv => whnf
      refine DrawCall_v (ds := [bytesD y, i64 (2 * i : Nat)]) (la51 y hy (2 * i)) rfl rfl ?_
      conv => whnf
      refine chk_i (decide_eq_true (by omega)) ?_
      conv => whnf
      refine arith_to (((2 * i : Nat) : Int)) (by (try dsimp only); omega) (wrap_i64 (by (try dsimp only); omega)) ?_
      conv => whnf
      refine arith_to (((2 * i + 1 : Nat) : Int)) (by (try dsimp only); omega) (wrap_i64 (by (try dsimp only); omega)) ?_
      conv => whnf
      refine DrawCall_v (ds := [bytesD y, i64 (2 * i + 1 : Nat)]) (la51 y hy (2 * i + 1)) rfl rfl ?_
      conv => whnf
      refine DrawCall_v (ds := [x.speed.d, i64 (turnF y (2 * i + 1))]) (la58 x.speed (turnF y (2 * i + 1)) (by omega) (by omega) (by omega)) rfl rfl ?_
      conv => whnf
      have t3 : 0 ≤ (turnF y (2 * i)).tmod x.drum ∧ (turnF y (2 * i)).tmod x.drum < x.drum := ⟨Int.tmod_nonneg _ t1.1, Int.tmod_lt_of_pos _ (by omega)⟩
      have t4 := among_in (s := x.speed) (n := turnF y (2 * i + 1)) (by omega) t2.1
      have t5 := hw1 _ _ ⟨t3, t4⟩
      refine DrawCall_v (ds := [x.d, l.d, i64 ((turnF y (2 * i)).tmod x.drum), i64 (amongF x.speed (turnF y (2 * i + 1)))]) (la57 x l _ _ hR hl t3 (by omega)) rfl rfl ?_
      conv => whnf
      refine arith_in (wrap_i64 (by (try dsimp only); omega)) ?_
      conv => whnf
      refine brk_i (fun h => absurd (of_decide_eq_true h) (by omega)) (fun _ => ?_)
      conv => whnf
      refine arith_in (wrap_i64 (by (try dsimp only); omega)) ?_
      conv => whnf
      refine ⟨i + 1, by omega, by omega, Wk.sub ⟨rfl, rfl, rfl, rfl, rfl, rfl, ?_, rfl, trivial⟩ ⟨rfl, rfl, trivial⟩⟩
      show some (V.d (i64 (((i : Int) + 1) * n))) = some (V.d (i64 (if i + 1 = k + 1 then x.night else ((i + 1 : Nat) : Int) * n)))
      rw [if_neg (by omega)]; simp
    · have h2 : i = k := by have := of_decide_eq_false h2; simp only [List.length_map, hlen] at this; omega
      have hik : (i : Int) * n = (k : Int) * n := by rw [h2]
      conv => whnf
      have t1 := turn_bd hy (2 * i)
      have t2 := turn_bd hy (2 * i + 1)
      refine brk_i (fun h => absurd (of_decide_eq_true h) (by omega)) (fun _ => ?_)
      conv => whnf
      refine arith_in (wrap_i64 (by (try dsimp only); omega)) ?_
      conv => whnf
      refine brk_i (fun h => absurd (of_decide_eq_true h) (by omega)) (fun _ => ?_)
      conv => whnf
      refine brk_i (fun h => absurd (of_decide_eq_true h) (by omega)) (fun _ => ?_)
      conv => whnf
      refine arith_to (((2 * i : Nat) : Int)) (by (try dsimp only); omega) (wrap_i64 (by (try dsimp only); omega)) ?_
      conv => whnf
      refine DrawCall_v (ds := [bytesD y, i64 (2 * i : Nat)]) (la51 y hy (2 * i)) rfl rfl ?_
      conv => whnf
      refine chk_i (decide_eq_true (by omega)) ?_
      conv => whnf
      refine arith_to (((2 * i : Nat) : Int)) (by (try dsimp only); omega) (wrap_i64 (by (try dsimp only); omega)) ?_
      conv => whnf
      refine arith_to (((2 * i + 1 : Nat) : Int)) (by (try dsimp only); omega) (wrap_i64 (by (try dsimp only); omega)) ?_
      conv => whnf
      refine DrawCall_v (ds := [bytesD y, i64 (2 * i + 1 : Nat)]) (la51 y hy (2 * i + 1)) rfl rfl ?_
      conv => whnf
      refine DrawCall_v (ds := [x.speed.d, i64 (turnF y (2 * i + 1))]) (la58 x.speed (turnF y (2 * i + 1)) (by omega) (by omega) (by omega)) rfl rfl ?_
      conv => whnf
      have t3 : 0 ≤ (turnF y (2 * i)).tmod x.drum ∧ (turnF y (2 * i)).tmod x.drum < x.drum := ⟨Int.tmod_nonneg _ t1.1, Int.tmod_lt_of_pos _ (by omega)⟩
      have t4 := among_in (s := x.speed) (n := turnF y (2 * i + 1)) (by omega) t2.1
      have t5 := hw1 _ _ ⟨t3, t4⟩
      refine DrawCall_v (ds := [x.d, l.d, i64 ((turnF y (2 * i)).tmod x.drum), i64 (amongF x.speed (turnF y (2 * i + 1)))]) (la57 x l _ _ hR hl t3 (by omega)) rfl rfl ?_
      conv => whnf
      refine arith_in (wrap_i64 (by (try dsimp only); omega)) ?_
      conv => whnf
      refine brk_i (fun h => absurd (of_decide_eq_true h) (by omega)) (fun _ => ?_)
      conv => whnf
      refine arith_in (wrap_i64 (by (try dsimp only); omega)) ?_
      conv => whnf
      refine ⟨i + 1, by omega, by omega, Wk.sub ⟨rfl, rfl, rfl, rfl, rfl, rfl, ?_, rfl, trivial⟩ ⟨rfl, rfl, trivial⟩⟩
      show some (V.d (i64 (x.night))) = some (V.d (i64 (if i + 1 = k + 1 then x.night else ((i + 1 : Nat) : Int) * n)))
      rw [if_pos (by omega)]
  · have h1 : i = k + 1 := by have := of_decide_eq_false h1; simp [hlen] at this; omega
    subst h1
    conv => whnf
    refine brk_i (fun h2 => ?_) (fun h2 => ?_)
    · conv => whnf
      refine CallA_v (la22) rfl rfl ?_
      conv => whnf
      exact RetA_view 0 rfl ⟨⟨rfl, rfl⟩, rfl⟩
    · have h2 : ¬ n = x.night := of_decide_eq_false h2
      obtain ⟨a0, v0, hav, hrun⟩ := hw2.resolve_left h2
      conv => whnf
      refine LoopA_p (T := tys) tysOk (by exact drawsB_spec mixed tysOk (by decide +kernel)) (α := Int × Bool) (fun p => ⟨[(3, .ptr 3 0), (4, .ptr 4 0), (6, .d (.bool false)), (7, .d (i64 n)), (14, .d (.bool p.2)), (15, .d (i64 p.1))], [(3, .box (.dd x.cells)), (4, .box (.dd l.cells))], st⟩)
        (fun p => 0 ≤ p.1 ∧ p.1 ≤ x.drum ∧ (p.2 = true ∨ p.1 ≤ a0)) (fun p => (x.drum - p.1).toNat) (0, false) (Wk.sub ⟨(by first | rfl | (simp only [List.length_map]; rfl) | simp [PX.get]), (by first | rfl | (simp only [List.length_map]; rfl) | simp [PX.get]), (by first | rfl | (simp only [List.length_map]; rfl) | simp [PX.get]), (by first | rfl | (simp only [List.length_map]; rfl) | simp [PX.get]), (by first | rfl | (simp only [List.length_map]; rfl) | simp [PX.get]), (by first | rfl | (simp only [List.length_map]; rfl) | simp [PX.get]), trivial⟩ ⟨(by first | rfl | (simp only [List.length_map]; rfl) | simp [PX.get]), (by first | rfl | (simp only [List.length_map]; rfl) | simp [PX.get]), trivial⟩) ⟨by simp, by simp only; omega, .inr (by simp only; omega)⟩ ?_
      rintro ⟨a, bd⟩ ⟨ha0, had, hbd⟩
      simp only at ha0 had hbd
      conv => whnf
      refine brk_i (fun h3 => ?_) (fun h3 => ?_)
      · have h3a : a < x.drum := of_decide_eq_true h3
        cases bd with
        | true =>
          conv => whnf
          refine CallA_v (la22) rfl rfl ?_
          conv => whnf
          exact RetA_view 0 rfl ⟨⟨rfl, rfl⟩, rfl⟩
        | false =>
          have hbd : a ≤ a0 := hbd.resolve_left (by simp)
          conv => whnf
          refine LoopA_p (T := tys) tysOk (by exact drawsB_spec mixed tysOk (by decide +kernel)) (α := Int × Bool) (fun p => ⟨[(3, .ptr 3 0), (4, .ptr 4 0), (6, .d (.bool false)), (7, .d (i64 n)), (14, .d (.bool p.2)), (15, .d (i64 a)), (16, .d (i64 p.1))], [(3, .box (.dd x.cells)), (4, .box (.dd l.cells))], st⟩)
            (fun p => x.speed.lo ≤ p.1 ∧ p.1 ≤ x.speed.hi + 1 ∧ (p.2 = true ∨ (a = a0 → p.1 ≤ v0))) (fun p => (x.speed.hi + 1 - p.1).toNat) (x.speed.lo, false) (Wk.sub ⟨(by first | rfl | (simp only [List.length_map]; rfl) | simp [PX.get]), (by first | rfl | (simp only [List.length_map]; rfl) | simp [PX.get]), (by first | rfl | (simp only [List.length_map]; rfl) | simp [PX.get]), (by first | rfl | (simp only [List.length_map]; rfl) | simp [PX.get]), (by first | rfl | (simp only [List.length_map]; rfl) | simp [PX.get]), (by first | rfl | (simp only [List.length_map]; rfl) | simp [PX.get]), (by first | rfl | (simp only [List.length_map]; rfl) | simp [PX.get]), trivial⟩ ⟨(by first | rfl | (simp only [List.length_map]; rfl) | simp [PX.get]), (by first | rfl | (simp only [List.length_map]; rfl) | simp [PX.get]), trivial⟩) ⟨by simp, by simp only; omega, .inr (by simp only; omega)⟩ ?_
          rintro ⟨v, bd⟩ ⟨hv0, hv1, hv2⟩
          simp only at hv0 hv1 hv2
          conv => whnf
          refine brk_i (fun h4 => ?_) (fun h4 => ?_)
          · have h4 : v ≤ x.speed.hi := of_decide_eq_true h4
            cases bd with
            | true =>
              conv => whnf
              refine arith_in (wrap_i64 (by (try dsimp only); omega)) ?_
              conv => whnf
              exact ⟨(v + 1, true), by simp only; omega, ⟨by simp only; omega, by simp only; omega, .inl rfl⟩, (Wk.sub ⟨(by first | rfl | (simp only [List.length_map]; rfl) | simp [PX.get]), (by first | rfl | (simp only [List.length_map]; rfl) | simp [PX.get]), (by first | rfl | (simp only [List.length_map]; rfl) | simp [PX.get]), (by first | rfl | (simp only [List.length_map]; rfl) | simp [PX.get]), (by first | rfl | (simp only [List.length_map]; rfl) | simp [PX.get]), (by first | rfl | (simp only [List.length_map]; rfl) | simp [PX.get]), (by first | rfl | (simp only [List.length_map]; rfl) | simp [PX.get]), trivial⟩ ⟨(by first | rfl | (simp only [List.length_map]; rfl) | simp [PX.get]), (by first | rfl | (simp only [List.length_map]; rfl) | simp [PX.get]), trivial⟩)⟩
            | false =>
              have hv2 : a = a0 → v ≤ v0 := hv2.resolve_left (by simp)
              conv => whnf
              refine CallA_v (ds := [x.d, l.d, i64 a, i64 v]) (la57 x l _ _ hR hl ⟨ha0, h3a⟩ (by omega)) rfl rfl ?_
              conv => whnf
              refine arith_in (wrap_i64 (by (try dsimp only); omega)) ?_
              conv => whnf
              refine ⟨(v + 1, decide (runV x l.phases a v = n)), by simp only; omega, ⟨by simp only; omega, by simp only; omega, ?_⟩, (Wk.sub ⟨(by first | rfl | (simp only [List.length_map]; rfl) | simp [PX.get]), (by first | rfl | (simp only [List.length_map]; rfl) | simp [PX.get]), (by first | rfl | (simp only [List.length_map]; rfl) | simp [PX.get]), (by first | rfl | (simp only [List.length_map]; rfl) | simp [PX.get]), (by first | rfl | (simp only [List.length_map]; rfl) | simp [PX.get]), (by first | rfl | (simp only [List.length_map]; rfl) | simp [PX.get]), (by first | rfl | (simp only [List.length_map]; rfl) | simp [PX.get]), trivial⟩ ⟨(by first | rfl | (simp only [List.length_map]; rfl) | simp [PX.get]), (by first | rfl | (simp only [List.length_map]; rfl) | simp [PX.get]), trivial⟩)⟩
              by_cases h5 : runV x l.phases a v = n
              · exact .inl (decide_eq_true h5)
              · right
                intro h6
                have := hv2 h6
                have h7 : v ≠ v0 := fun h7 => h5 (by rw [h6, h7]; exact hrun)
                simp only
                omega
          · have h4 : ¬ v ≤ x.speed.hi := of_decide_eq_false h4
            conv => whnf
            refine arith_in (wrap_i64 (by (try dsimp only); omega)) ?_
            conv => whnf
            refine ⟨(a + 1, bd), by simp only; omega, ⟨by simp only; omega, by simp only; omega, ?_⟩, (Wk.sub ⟨(by first | rfl | (simp only [List.length_map]; rfl) | simp [PX.get]), (by first | rfl | (simp only [List.length_map]; rfl) | simp [PX.get]), (by first | rfl | (simp only [List.length_map]; rfl) | simp [PX.get]), (by first | rfl | (simp only [List.length_map]; rfl) | simp [PX.get]), (by first | rfl | (simp only [List.length_map]; rfl) | simp [PX.get]), (by first | rfl | (simp only [List.length_map]; rfl) | simp [PX.get]), trivial⟩ ⟨(by first | rfl | (simp only [List.length_map]; rfl) | simp [PX.get]), (by first | rfl | (simp only [List.length_map]; rfl) | simp [PX.get]), trivial⟩)⟩
            rcases hv2 with h | h
            · exact .inl h
            · right
              have : a ≠ a0 := fun h6 => by have := h h6; omega
              simp only
              omega
      · have h3 : ¬ a < x.drum := of_decide_eq_false h3
        have hb : bd = true := hbd.resolve_right (by omega)
        subst hb
        conv => whnf
        refine CallA_v (la22) rfl rfl ?_
        conv => whnf
        exact RetA_view 0 rfl ⟨⟨rfl, rfl⟩, rfl⟩
end Go.PX
